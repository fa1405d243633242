/- Regions that draw: one new block more. -/
import Derived.Test.YtbofkbhobcahiaaGreatEvDraw6
namespace Go.Ev
noncomputable section
section
variable {P : Program} {ops : Array Oper} {gs : List GOper} {fr : Tr GV} {E : Nat → Env} {H : Nat → Heap} {V : Nat → GV}
variable {cx : Cx} {φ0 φ : Phi} {w0 w : World} {S : Nat → Prop} {c : Nat} {a : Act}

theorem Inv.empty (I : Inv ops gs fr E H cx φ0 w0 S c φ a w) (nx : Pos) : HRel (φ.below nx.nat) ⟨.leaf, nx⟩ w where
  obj p L _ := by simp only [Tr.get_leaf]; trivial
  lt p L hp := by obtain ⟨h1, h2⟩ := Phi.below_some hp; exact ⟨(I.dom p L h2).1, h1⟩
  inj p q L M _ _ h1 := by simp only [Tr.get_leaf] at h1; cases h1
  new p _ := Tr.get_leaf _ _

theorem Inv.lay {w' : World} {φ1 : Phi} {u : Value} {b : GObj} (T : Txt P ops gs fr E H V) (I : Inv ops gs fr E H cx φ0 w0 S c φ a w) (he : edgesLt ops.toList = true) (hsl : SlotsOk ops) (hdst : ∀ (k : Nat) (o : Oper), ops[k]? = some o → dstOk cx o.dst = true) {k : Nat} {o : Oper} (r : Ready ops S k o)
    (hcls : clsAt gs k = .a) (hHk : H (k + 1) = ⟨Tr.set .gone b (H k).nx (H k).t, (H k).nx.succ⟩) (hu : rel φ1 (V k) u) (H1 : HRel φ1 ⟨Tr.set .gone b (H k).nx .leaf, (H k).nx.succ⟩ w')
    (F1 : Fr (φ.below (H k).nx.nat) ⟨.leaf, (H k).nx⟩ w φ1 ⟨Tr.set .gone b (H k).nx .leaf, (H k).nx.succ⟩ w') :
    ∃ φ', Inv ops gs fr E H cx φ0 w0 (With S k) c φ' (a.put o.dst u) w' := by
  have hk := lt_of_at r.at_
  have hck : c ≤ k := by
    rcases Nat.lt_or_ge k c with h1 | h1
    · exact absurd (I.cS k h1 (.inr hcls)) r.not
    · exact h1
  have hnq : ¬ isEW gs k := by rintro (h | h) <;> rw [hcls] at h <;> cases h
  have hnx : (H (k + 1)).nx.nat = (H k).nx.nat + 1 := by rw [hHk]; exact Pos.nat_succ _
  have gap : ∀ {p : Pos} {L : Loc}, φ p = some L → p.nat < (H k).nx.nat ∨ (H (k + 1)).nx.nat ≤ p.nat := fun hp => I.gap T hk r.not hck hp
  have hold : ∀ r0, r0 < w.heap.size → w'.heap[r0]? = w.heap[r0]? := fun r0 hr => F1.same r0 hr fun ⟨q, M, hq, _, hw⟩ => by
    simp only [Tr.get_leaf] at hw; cases hw
  have hfresh : ∀ p L, φ1 p = some L → (H k).nx.nat ≤ p.nat → b.live = true → w.heap.size ≤ L.r ∧ p = (H k).nx := by
    intro p L hp h1 hb
    have hlt := (H1.lt p L hp).2
    simp only [Pos.nat_succ] at hlt
    have hpe : p = (H k).nx := Pos.nat_inj (by omega)
    refine ⟨?_, hpe⟩
    rcases Nat.lt_or_ge L.r w.heap.size with h2 | h2
    · obtain ⟨q, M, _, _, hw⟩ := F1.lv L.r h2 ⟨p, L, hp, rfl, by rw [hpe]; simp only; rw [Tr.get_set]; exact hb⟩
      simp only [Tr.get_leaf] at hw; cases hw
    · exact h2
  let φ' : Phi := fun p => if p.nat = (H k).nx.nat then φ1 p else φ p
  have φ'_new : ∀ {p : Pos}, p.nat = (H k).nx.nat → φ' p = φ1 p := fun h => if_pos h
  have φ'_old : ∀ {p : Pos}, p.nat ≠ (H k).nx.nat → φ' p = φ p := fun h => if_neg h
  have hle : φ.le φ' := by
    intro p L hp
    rcases gap hp with h | h
    · rw [φ'_old (by omega)]; exact hp
    · rw [φ'_old (by omega)]; exact hp
  have h1le : φ1.le (φ'.below (H (k + 1)).nx.nat) := by
    intro p L hp
    have hlt := (H1.lt p L hp).2
    simp only [Pos.nat_succ] at hlt
    refine Phi.below_of (by omega) ?_
    by_cases h1 : p.nat = (H k).nx.nat
    · rw [φ'_new h1]; exact hp
    · rw [φ'_old h1]
      cases hq : (φ.below (H k).nx.nat) p with
      | none => have := F1.ids p L hp hq; simp only at this; omega
      | some M =>
        have := F1.le p M hq
        rw [hp] at this
        rw [Option.some.inj this]
        exact (Phi.below_some hq).2
  have cases' : ∀ {p : Pos} {L : Loc} {b' : GObj} {m : Nat}, φ' p = some L → Cur ops gs H c (With S k) p b' m → (p = (H k).nx ∧ φ1 p = some L ∧ b' = b ∧ m = k + 1) ∨ (φ p = some L ∧ Cur ops gs H c S p b' m) := by
    intro p L b' m hp hc
    by_cases h1 : p.nat = (H k).nx.nat
    · rw [φ'_new h1] at hp
      have hpe : p = (H k).nx := Pos.nat_inj h1
      rcases hc with ⟨e1, -, -⟩ | ⟨i, e1, e2, e3, e4, e5, e6, e7, e8⟩
      · have := T.nx k c hck (by omega); omega
      · have hik : i = k := by
          rcases Nat.lt_or_ge i k with h2 | h2
          · have := T.nx k (i + 1) (by omega) (by omega); omega
          · rcases Nat.lt_or_ge k i with h3 | h3
            · have := T.nx i (k + 1) (by omega) (by omega); omega
            · omega
        subst hik
        refine .inl ⟨hpe, hp, ?_, e8⟩
        rw [e7, hHk, hpe]; exact Tr.get_set _ _ _ _
    · rw [φ'_old h1] at hp
      refine .inr ⟨hp, ?_⟩
      rcases hc with hc | ⟨i, e1, e2, e3, e4, e5, e6, e7, e8⟩
      · exact .inl hc
      · rcases e1 with rfl | e1
        · omega
        · exact .inr ⟨i, e1, e2, e3, e4, e5, e6, e7, e8⟩
  refine ⟨φ', With.closed r I.closed, ?_, I.cle, fun i hi h => .inr (I.cS i hi h), I.ctop.imp id fun ⟨j, h1, h2, h3⟩ => ⟨j, h1, .inr h2, h3⟩, ?_, ?_, ?_, ?_, ?_, by rw [put_size]; exact I.size, by rw [put_defers']; exact I.defers, I.le.trans hle, ?_, ?_, ?_, ?_, ?_, ?_, ?_, ?_⟩
  · rintro i (rfl | hi)
    · exact hk
    · exact I.lt i hi
  · rintro i (rfl | hi) h
    · exact absurd h hnq
    · exact I.cmax i hi h
  · refine I.slot_put T he hsl hdst r hle (Nat.le_refl _) I.cle ?_
    rw [Nat.max_eq_right (by omega)]
    exact hu.mono h1le
  · intro p L hp
    by_cases h1 : p.nat = (H k).nx.nat
    · rw [φ'_new h1] at hp
      exact ⟨(H1.lt p L hp).1, _, _, .inr ⟨k, .inl rfl, hck, hk, hcls, by omega, by omega, rfl, rfl⟩⟩
    · rw [φ'_old h1] at hp
      obtain ⟨h2, b', m, h3⟩ := I.dom p L hp
      exact ⟨Nat.lt_of_lt_of_le h2 F1.size, b', m, h3.old⟩
  · intro p L b' m hp hc
    rcases cases' hp hc with ⟨h1, h2, h3, h4⟩ | ⟨h1, h2⟩
    · subst h3 h4
      have := H1.obj p L h2
      rw [h1] at this
      simp only [Tr.get_set] at this
      exact relO_mono h1le this
    · exact relO_other (Phi.below_le hle (Nat.le_refl _)) (hold _ (I.dom p L h1).1) (I.obj p L b' m h1 h2)
  · intro p q L M b1 b2 m m' hp hq hc hc' hb hb' e
    rcases cases' hp hc with ⟨h1, h2, h3, h4⟩ | ⟨h1, h2⟩ <;> rcases cases' hq hc' with ⟨g1, g2, g3, g4⟩ | ⟨g1, g2⟩
    · rw [h1, g1]
    · exfalso
      have := (hfresh p L h2 (by rw [h1]; exact Nat.le_refl _) (by rw [← h3]; exact hb)).1
      have := (I.dom q M g1).1
      omega
    · exfalso
      have := (hfresh q M g2 (by rw [g1]; exact Nat.le_refl _) (by rw [← g3]; exact hb')).1
      have := (I.dom p L h1).1
      omega
    · exact I.inj p q L M b1 b2 m m' h1 g1 h2 g2 hb hb' e
  · exact Nat.le_trans I.hsize F1.size
  · intro r0 hr hn
    rw [hold r0 (Nat.lt_of_lt_of_le hr I.hsize)]
    exact I.same r0 hr hn
  · rintro r0 hr ⟨p, L, b', m, hp, e, hc, hw⟩
    rcases cases' hp hc with ⟨h1, h2, h3, h4⟩ | ⟨h1, h2⟩
    · exfalso
      have hl : b.live = true := by rw [← h3]; cases b' <;> first | rfl | cases hw
      have := (hfresh p L h2 (by rw [h1]; exact Nat.le_refl _) hl).1
      have := I.hsize
      omega
    · exact I.wr r0 hr ⟨p, L, b', m, h1, e, h2, hw⟩
  · rintro r0 hr ⟨p, L, b', m, hp, e, hc, hw⟩
    rcases cases' hp hc with ⟨h1, h2, h3, h4⟩ | ⟨h1, h2⟩
    · exfalso
      have := (hfresh p L h2 (by rw [h1]; exact Nat.le_refl _) (by rw [← h3]; exact hw)).1
      have := I.hsize
      omega
    · exact I.lv r0 hr ⟨p, L, b', m, h1, e, h2, hw⟩
  · intro p L hp hn
    by_cases h1 : p.nat = (H k).nx.nat
    · have := T.nx k 0 (by omega) (by omega); omega
    · rw [φ'_old h1] at hp; exact I.ids p L hp hn
  · exact F1.tape.trans I.tape
  · exact F1.os.trans I.os
  · exact F1.output.trans I.output

end
end
end Go.Ev
