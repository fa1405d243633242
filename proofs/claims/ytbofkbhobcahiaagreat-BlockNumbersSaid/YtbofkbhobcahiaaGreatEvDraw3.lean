/- Regions that draw: what the checks of the text say. -/
import Derived.Test.YtbofkbhobcahiaaGreatEvDraw2
namespace Go.Ev
noncomputable section
section
variable {ops : Array Oper}

theorem fold_bit {α : Type} (b : α → Bool) (on : α → Nat) (g : α → Nat) (i : Nat) : ∀ (l : List α) (s0 : Nat), (l.foldl (fun s e => if b e then s ||| 2 ^ on e ||| g e else s) s0).testBit i = true → s0.testBit i = true ∨ ∃ e ∈ l, b e = true ∧ (on e = i ∨ (g e).testBit i = true)
  | [], s0, h => .inl h
  | e :: l, s0, h => by
    rw [List.foldl_cons] at h
    rcases fold_bit b on g i l _ h with h1 | ⟨e', he', h1⟩
    · split at h1
      · rename_i hb
        rw [Nat.testBit_or, Nat.testBit_or, Bool.or_eq_true, Bool.or_eq_true] at h1
        rcases h1 with (h1 | h1) | h1
        · exact .inl h1
        · rw [Nat.testBit_two_pow] at h1
          exact .inr ⟨e, by simp, hb, .inl (by simpa using h1)⟩
        · exact .inr ⟨e, by simp, hb, .inr h1⟩
      · exact .inl h1
    · exact .inr ⟨e', by simp [he'], h1⟩

theorem ancs_pre : ∀ (l : List Oper) (acc : List Nat) (t : Nat), t < acc.length → (ancs l acc).getD t 0 = acc.getD t 0
  | [], acc, t, _ => rfl
  | o :: l, acc, t, h => by
    rw [ancs, ancs_pre l _ t (by simp; omega)]
    simp [List.getD_eq_getElem?_getD, List.getElem?_append_left h]
theorem ancs_bit : ∀ (l : List Oper) (acc : List Nat) (m : Nat) (o : Oper) (i : Nat), l[m]? = some o → ((ancs l acc).getD (acc.length + m) 0).testBit i = true →
    ∃ e ∈ o.after.toList, Region.binds .any e = true ∧ (e.on = i ∨ ((ancs l acc).getD e.on 0).testBit i = true)
  | [], acc, m, o, i, ho, _ => by simp at ho
  | o' :: l, acc, 0, o, i, ho, h => by
    simp only [List.getElem?_cons_zero, Option.some.injEq] at ho
    subst ho
    rw [ancs, ancs_pre l _ _ (by simp)] at h
    have e1 : ∀ x : Nat, (acc ++ [x]).getD (acc.length + 0) 0 = x := fun x => by simp [List.getD_eq_getElem?_getD]
    rw [e1] at h
    rcases fold_bit (fun e => Region.binds .any e) (fun e => e.on) (fun e => acc.getD e.on 0) i _ _ h with h1 | ⟨e, he, hb, h1⟩
    · simp at h1
    · refine ⟨e, he, hb, h1.imp id fun h2 => ?_⟩
      have hlt : e.on < acc.length := by
        rcases Nat.lt_or_ge e.on acc.length with h3 | h3
        · exact h3
        · rw [List.getD_eq_getElem?_getD, List.getElem?_eq_none h3] at h2; simp at h2
      rw [ancs, ancs_pre l _ _ (by simp; omega)]
      rw [List.getD_eq_getElem?_getD, List.getElem?_append_left hlt, ← List.getD_eq_getElem?_getD]
      exact h2
  | o' :: l, acc, m + 1, o, i, ho, h => by
    simp only [List.getElem?_cons_succ] at ho
    rw [ancs] at h ⊢
    exact ancs_bit l _ m o i ho (by rw [List.length_append]; simpa [Nat.add_assoc, Nat.add_comm 1] using h)

/-- A set of operations, closed under what binds. -/
def Closed (ops : Array Oper) (S : Nat → Prop) : Prop := ∀ (j : Nat) (o : Oper), S j → ops[j]? = some o → ∀ e ∈ o.after.toList, Region.binds .any e = true → S e.on
theorem edgesLt_ok (h : edgesLt ops.toList = true) {j : Nat} {o : Oper} (ho : ops[j]? = some o) {e : Edge} (he : e ∈ o.after.toList) (hb : Region.binds .any e = true) : e.on < j := by
  unfold edgesLt at h
  rw [List.all_eq_true] at h
  have hm : (o, j) ∈ ops.toList.zipIdx := by
    rw [List.mem_zipIdx_iff_getElem?]; simpa using ho
  have := h (o, j) hm
  simp only [Array.all_eq_true_iff_forall_mem] at this
  have := this e (by simpa using he)
  rw [hb] at this
  exact nat_blt (by simpa using this)
theorem ordd_closed (hlt : edgesLt ops.toList = true) {S : Nat → Prop} (hS : Closed ops S) : ∀ (k : Nat) (o : Oper) (i : Nat), ops[k]? = some o → (∀ e ∈ o.after.toList, Region.binds .any e = true → S e.on) → ordd (ancs ops.toList []) i k = true → S i := by
  intro k
  induction k using Nat.strongRecOn with
  | _ k ih =>
    intro o i ho hpre hord
    have := ancs_bit ops.toList [] k o i (by simpa using ho) (by simpa [ordd] using hord)
    obtain ⟨e, he, hb, h1⟩ := this
    have hSe := hpre e he hb
    have hlte := edgesLt_ok hlt ho he hb
    rcases h1 with rfl | h1
    · exact hSe
    · have hk : k < ops.size := by
        rcases Nat.lt_or_ge k ops.size with h | h
        · exact h
        · rw [Array.getElem?_eq_none h] at ho; cases ho
      have ho' : ops[e.on]? = some ops[e.on] := Array.getElem?_eq_getElem (by omega)
      exact ih e.on hlte _ i ho' (fun e' he' hb' => hS e.on _ hSe ho' e' he' hb') h1

theorem allPairs_ok {n : Nat} {f : Nat → Nat → Bool} (h : allPairs n f = true) {i j : Nat} (hij : i < j) (hj : j < n) : f i j = true := by
  unfold allPairs at h
  rw [List.all_eq_true] at h
  have := h j (by simpa using hj)
  rw [List.all_eq_true] at this
  exact this i (by simpa using hij)

theorem mem_ready {listed : Array Bool} {i : Nat} : i ∈ Region.ready .any ops listed ↔ ∃ o, ops[i]? = some o ∧ listed.getD i true = false ∧ ∀ e ∈ o.after.toList, Region.binds .any e = true → listed.getD e.on false = true := by
  unfold Region.ready
  rw [List.mem_filter, List.mem_range]
  constructor
  · rintro ⟨h1, h2⟩
    have ho : ops[i]? = some ops[i] := Array.getElem?_eq_getElem h1
    simp only [Bool.and_eq_true, Bool.not_eq_true', ho, Option.map_some, Option.getD_some, Array.all_eq_true_iff_forall_mem] at h2
    refine ⟨_, ho, h2.1, fun e he hb => ?_⟩
    have := h2.2 e (by simpa using he)
    rw [hb] at this
    simpa using this
  · rintro ⟨o, ho, h1, h2⟩
    have hlt : i < ops.size := by
      rcases Nat.lt_or_ge i ops.size with h | h
      · exact h
      · rw [Array.getElem?_eq_none h] at ho; cases ho
    refine ⟨hlt, ?_⟩
    simp only [Bool.and_eq_true, Bool.not_eq_true', ho, Option.map_some, Option.getD_some, Array.all_eq_true_iff_forall_mem]
    refine ⟨h1, fun e he => ?_⟩
    cases hb : Region.binds .any e with
    | false => rfl
    | true => simpa using h2 e (by simpa using he) hb

end
end
end Go.Ev
