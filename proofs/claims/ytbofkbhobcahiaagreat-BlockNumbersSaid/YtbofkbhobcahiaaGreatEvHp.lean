/- What reading, writing, laying a block does to the relation between the ghost heap and the world. -/
import Derived.Test.YtbofkbhobcahiaaGreatEvObjs
namespace Go.Ev
noncomputable section
section
variable {P : Program} {φ : Phi} {h : Heap} {w : World}

theorem hget_eq (p : Pos) (h : Heap) : hget p h = Tr.get .gone p h.t := by cases h; rfl
theorem hset_eq (p : Pos) (b : GObj) (h : Heap) : hset p b h = some ⟨Tr.set .gone b p h.t, h.nx⟩ := by
  cases h; show Tr.setK .gone b p _ _ = _; rw [Tr.setK_eq]
theorem hnew_eq {β : Type} (b : GObj) (h : Heap) (f : Pos → Heap → Option β) : hnew b h f = f h.nx ⟨Tr.set .gone b h.nx h.t, h.nx.succ⟩ := by
  cases h; show Tr.setK .gone b _ _ _ = _; rw [Tr.setK_eq]

theorem relO_row {o : GObj} {L : Loc} {l : List GV} {sz : Nat} {ro : Bool} (hr : o.row = some (l, sz, ro)) : relO φ w o L ↔ ∃ c T fz, RowRel φ w l sz ro L c T fz := by
  unfold relO
  cases o <;> simp only [GObj.row, Option.some.injEq, Prod.mk.injEq, reduceCtorEq] at hr ⊢
  all_goals
    obtain ⟨rfl, rfl, rfl⟩ := hr
    constructor
    · rintro ⟨l, sz, ro, c, T, fz, ⟨rfl, rfl, rfl⟩, hR⟩; exact ⟨c, T, fz, hR⟩
    · rintro ⟨c, T, fz, hR⟩; exact ⟨_, _, _, c, T, fz, ⟨rfl, rfl, rfl⟩, hR⟩
theorem live_row {o : GObj} {x : List GV × Nat × Bool} (hr : o.row = some x) : o.live = true := by cases o <;> first | rfl | cases hr
theorem wr_row {o : GObj} {l : List GV} {sz : Nat} {ro : Bool} (hr : o.row = some (l, sz, ro)) : o.wr = !ro := by
  cases o <;> simp only [GObj.row, Option.some.injEq, Prod.mk.injEq, reduceCtorEq] at hr <;> (obtain ⟨-, -, rfl⟩ := hr; rfl)

theorem HRel.row (H : HRel φ h w) {p : Pos} {L : Loc} (hp : φ p = some L) {l : List GV} {sz : Nat} {ro : Bool} (hr : (hget p h).row = some (l, sz, ro)) : ∃ c T fz, RowRel φ w l sz ro L c T fz := by
  rw [hget_eq] at hr
  exact (relO_row hr).1 (H.obj p L hp)

theorem RowRel.cell? {l : List GV} {sz : Nat} {ro : Bool} {L : Loc} {c : Array Value} {T : TypeId} {fz : Nat × Nat} (R : RowRel φ w l sz ro L c T fz) {i : Nat} {g : GV} (hg : l[i]? = some g) :
    ∃ v, w.cell? ⟨L.r, L.d + i, none⟩ = some v ∧ relC φ g v := by
  obtain ⟨v, hv, hr⟩ := R.cell i g hg
  exact ⟨v, by simp [World.cell?, R.at_, hv], hr⟩

/-- A world with one block turned. -/
structure Turned (w w' : World) (r : Nat) (c' : Array Value) (T : TypeId) (fz : Nat × Nat) : Prop where
  at_ : w'.heap[r]? = some (.cells c' T fz)
  other : ∀ s, s ≠ r → w'.heap[s]? = w.heap[s]?
  size : w'.heap.size = w.heap.size
  tape : w'.tape = w.tape
  os : w'.os = w.os
  output : w'.output = w.output

/-- An object lies as it lay, where its block has not turned. -/
theorem relO_other {φ' : Phi} {w' : World} {o : GObj} {L : Loc} (hle : φ.le φ') (hs : w'.heap[L.r]? = w.heap[L.r]?) (ho : relO φ w o L) : relO φ' w' o L := by
  cases o with
  | gone => trivial
  | chan cap buf =>
    obtain ⟨b, s, r, h1, h2⟩ := ho
    exact ⟨b, s, r, by rw [hs]; exact h1, h2.mono fun _ _ => relC.mono hle⟩
  | cells l sz ro =>
    obtain ⟨c, T, fz, R⟩ := (relO_row rfl).1 ho
    refine (relO_row rfl).2 ⟨c, T, fz, ⟨by rw [hs]; exact R.at_, R.size, R.elem, R.frz, fun i g hg => ?_⟩⟩
    obtain ⟨v, hv, hr⟩ := R.cell i g hg
    exact ⟨v, hv, hr.mono hle⟩
  | pk k w1 len n ro =>
    obtain ⟨c, T, fz, R⟩ := (relO_row rfl).1 ho
    refine (relO_row rfl).2 ⟨c, T, fz, ⟨by rw [hs]; exact R.at_, R.size, R.elem, R.frz, fun i g hg => ?_⟩⟩
    obtain ⟨v, hv, hr⟩ := R.cell i g hg
    exact ⟨v, hv, hr.mono hle⟩

/-- A row is written. -/
theorem upd_ok (H : HRel φ h w) {p : Pos} {L : Loc} (hp : φ p = some L) {l l' : List GV} {sz : Nat} {b' : GObj} {c c' : Array Value} {T : TypeId} {fz : Nat × Nat} {w' : World}
    (hr : (hget p h).row = some (l, sz, false)) (hr' : b'.row = some (l', sz, false)) (R : RowRel φ w l sz false L c T fz) (ht : Turned w w' L.r c' T fz) (hsz : c'.size = c.size)
    (hc : ∀ (i : Nat) (g : GV), l'[i]? = some g → ∃ v, c'[L.d + i]? = some v ∧ relC φ g v) :
    HRel φ ⟨Tr.set .gone b' p h.t, h.nx⟩ w' ∧ Fr φ h w φ ⟨Tr.set .gone b' p h.t, h.nx⟩ w' := by
  rw [hget_eq] at hr
  have hlive := live_row hr
  have hlive' := live_row hr'
  constructor
  · refine ⟨fun q M hq => ?_, fun q M hq => by rw [ht.size]; exact H.lt q M hq, fun q s M M' hq hs h1 h2 e => ?_, fun q hq => ?_⟩
    · by_cases hqp : q = p
      · subst hqp
        obtain rfl : L = M := by rw [hp] at hq; exact Option.some.inj hq
        rw [Tr.get_set]
        exact (relO_row hr').2 ⟨c', T, fz, ⟨ht.at_, by rw [hsz]; exact R.size, R.elem, fun e => by rw [hsz]; exact R.frz e, hc⟩⟩
      · rw [Tr.get_set_ne _ _ _ _ _ hqp]
        cases hg : (Tr.get GObj.gone q h.t).live with
        | false =>
          cases ho : Tr.get GObj.gone q h.t <;> rw [ho] at hg <;> first | trivial | cases hg
        | true =>
          have hne : M.r ≠ L.r := fun e => hqp (H.inj q p M L hq hp hg hlive e)
          exact relO_other (.refl φ) (ht.other _ hne) (H.obj q M hq)
    · have live_of : ∀ u, (Tr.get GObj.gone u (Tr.set .gone b' p h.t)).live = true → (Tr.get GObj.gone u h.t).live = true := by
        intro u hu
        by_cases hup : u = p
        · subst hup; exact hlive
        · rwa [Tr.get_set_ne _ _ _ _ _ hup] at hu
      exact H.inj q s M M' hq hs (live_of q h1) (live_of s h2) e
    · have : q ≠ p := fun e => by
        subst e
        have := (H.lt q L hp).2
        simp only at hq
        omega
      simp only
      rw [Tr.get_set_ne _ _ _ _ _ this]
      exact H.new q hq
  · refine ⟨.refl φ, by rw [ht.size]; exact Nat.le_refl _, Nat.le_refl _, fun r _ hn => ?_, fun r _ hw => ?_, fun r _ hw => ?_, fun q M h1 h2 => by (rw [h1] at h2; cases h2), ht.tape, ht.os, ht.output⟩
    · refine ht.other r fun e => hn ⟨p, L, hp, e.symm, ?_⟩
      rw [wr_row hr]; rfl
    · obtain ⟨q, M, hq, he, hwq⟩ := hw
      by_cases hqp : q = p
      · subst hqp
        exact ⟨q, M, hq, he, by rw [wr_row hr]; rfl⟩
      · refine ⟨q, M, hq, he, ?_⟩
        simp only at hwq
        rwa [Tr.get_set_ne _ _ _ _ _ hqp] at hwq
    · obtain ⟨q, M, hq, he, hwq⟩ := hw
      by_cases hqp : q = p
      · subst hqp
        exact ⟨q, M, hq, he, hlive⟩
      · refine ⟨q, M, hq, he, ?_⟩
        simp only at hwq
        rwa [Tr.get_set_ne _ _ _ _ _ hqp] at hwq

/-- The map with one block more. -/
def Phi.ins (φ : Phi) (p : Pos) (L : Loc) : Phi := fun q => if q.nat = p.nat then some L else φ q
theorem Phi.ins_self (φ : Phi) (p : Pos) (L : Loc) : φ.ins p L p = some L := by simp [Phi.ins]
theorem Phi.ins_ne {φ : Phi} {p q : Pos} {L : Loc} (h : q ≠ p) : φ.ins p L q = φ q := by
  unfold Phi.ins; rw [if_neg fun e => h (Pos.nat_inj e)]

theorem HRel.none (H : HRel φ h w) {p : Pos} (hp : h.nx.nat ≤ p.nat) : φ p = none := by
  cases e : φ p with
  | none => rfl
  | some L => have := (H.lt p L e).2; omega
theorem HRel.le_ins (H : HRel φ h w) (L : Loc) : φ.le (φ.ins h.nx L) := by
  intro p M hp
  rw [Phi.ins_ne]; exact hp
  rintro rfl
  rw [H.none (Nat.le_refl _)] at hp; cases hp

/-- A new block. -/
theorem new_ok (H : HRel φ h w) {b : GObj} {l : List GV} {sz : Nat} {c : Array Value} {T : TypeId} {w' : World} (hr : b.row = some (l, sz, false))
    (hw : w'.heap = w.heap.push (.cells c T (0, 0))) (htape : w'.tape = w.tape) (hos : w'.os = w.os) (hout : w'.output = w.output)
    (hc : ∀ (i : Nat) (g : GV), l[i]? = some g → ∃ v, c[i]? = some v ∧ relC φ g v) :
    HRel (φ.ins h.nx ⟨w.heap.size, 0, c.size, sz⟩) ⟨Tr.set .gone b h.nx h.t, h.nx.succ⟩ w' ∧ Fr φ h w (φ.ins h.nx ⟨w.heap.size, 0, c.size, sz⟩) ⟨Tr.set .gone b h.nx h.t, h.nx.succ⟩ w' := by
  have hle := H.le_ins ⟨w.heap.size, 0, c.size, sz⟩
  have hold : ∀ r, r < w.heap.size → w'.heap[r]? = w.heap[r]? := fun r hr => by rw [hw, Array.getElem?_push_lt hr, Array.getElem?_eq_getElem hr]
  have hnew : w'.heap[w.heap.size]? = some (.cells c T (0, 0)) := by rw [hw]; simp
  have hsize : w'.heap.size = w.heap.size + 1 := by rw [hw]; simp
  constructor
  · refine ⟨fun q M hq => ?_, fun q M hq => ?_, fun q s M M' hq hs h1 h2 e => ?_, fun q hq => ?_⟩
    · by_cases hqn : q = h.nx
      · subst hqn
        rw [Phi.ins_self] at hq
        obtain rfl := Option.some.inj hq
        rw [Tr.get_set]
        refine (relO_row hr).2 ⟨c, T, (0, 0), ⟨hnew, rfl, rfl, fun _ => .inl rfl, fun i g hg => ?_⟩⟩
        obtain ⟨v, hv, hrel⟩ := hc i g hg
        exact ⟨v, by simpa using hv, hrel.mono hle⟩
      · rw [Phi.ins_ne hqn] at hq
        rw [Tr.get_set_ne _ _ _ _ _ hqn]
        exact relO_other hle (hold _ (H.lt q M hq).1) (H.obj q M hq)
    · rw [Pos.nat_succ, hsize]
      by_cases hqn : q = h.nx
      · subst hqn
        rw [Phi.ins_self] at hq
        obtain rfl := Option.some.inj hq
        simp
      · rw [Phi.ins_ne hqn] at hq
        have := H.lt q M hq
        omega
    · by_cases hqn : q = h.nx <;> by_cases hsn : s = h.nx
      · rw [hqn, hsn]
      · exfalso
        subst hqn
        rw [Phi.ins_self] at hq
        rw [Phi.ins_ne hsn] at hs
        obtain rfl := Option.some.inj hq
        have := (H.lt s M' hs).1
        simp only at e; omega
      · exfalso
        subst hsn
        rw [Phi.ins_self] at hs
        rw [Phi.ins_ne hqn] at hq
        obtain rfl := Option.some.inj hs
        have := (H.lt q M hq).1
        simp only at e; omega
      · rw [Phi.ins_ne hqn] at hq
        rw [Phi.ins_ne hsn] at hs
        simp only at h1 h2
        rw [Tr.get_set_ne _ _ _ _ _ hqn] at h1
        rw [Tr.get_set_ne _ _ _ _ _ hsn] at h2
        exact H.inj q s M M' hq hs h1 h2 e
    · simp only [Pos.nat_succ] at hq
      have : q ≠ h.nx := fun e => by subst e; omega
      simp only
      rw [Tr.get_set_ne _ _ _ _ _ this]
      exact H.new q (by omega)
  · refine ⟨hle, by omega, by rw [Pos.nat_succ]; omega, fun r hr _ => hold r hr, fun r hr hwr => ?_, fun r hr hwr => ?_, fun q M h1 h2 => ?_, htape, hos, hout⟩
    · obtain ⟨q, M, hq, he, hwq⟩ := hwr
      by_cases hqn : q = h.nx
      · subst hqn
        rw [Phi.ins_self] at hq
        obtain rfl := Option.some.inj hq
        simp only at he; omega
      · rw [Phi.ins_ne hqn] at hq
        simp only at hwq
        rw [Tr.get_set_ne _ _ _ _ _ hqn] at hwq
        exact ⟨q, M, hq, he, hwq⟩
    · obtain ⟨q, M, hq, he, hwq⟩ := hwr
      by_cases hqn : q = h.nx
      · subst hqn
        rw [Phi.ins_self] at hq
        obtain rfl := Option.some.inj hq
        simp only at he; omega
      · rw [Phi.ins_ne hqn] at hq
        simp only at hwq
        rw [Tr.get_set_ne _ _ _ _ _ hqn] at hwq
        exact ⟨q, M, hq, he, hwq⟩
    · by_cases hqn : q = h.nx
      · subst hqn; exact Nat.le_refl _
      · rw [Phi.ins_ne hqn] at h1; rw [h1] at h2; cases h2

end
end
end Go.Ev
