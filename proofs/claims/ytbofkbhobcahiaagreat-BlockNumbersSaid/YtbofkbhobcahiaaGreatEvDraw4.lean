/- Regions that draw: what holds while operations run in any order that is let. -/
import Derived.Test.YtbofkbhobcahiaaGreatEvDraw3
namespace Go.Ev
noncomputable section

/-- The names below m. -/
def Phi.below (φ : Phi) (m : Nat) : Phi := fun p => if p.nat < m then φ p else none
theorem Phi.below_some {φ : Phi} {m : Nat} {p : Pos} {L : Loc} (h : φ.below m p = some L) : p.nat < m ∧ φ p = some L := by
  unfold Phi.below at h
  split at h
  · exact ⟨by assumption, h⟩
  · cases h
theorem Phi.below_of {φ : Phi} {m : Nat} {p : Pos} {L : Loc} (h : p.nat < m) (hp : φ p = some L) : φ.below m p = some L := by unfold Phi.below; rw [if_pos h, hp]
theorem Phi.below_le {φ φ' : Phi} {m m' : Nat} (h : φ.le φ') (hm : m ≤ m') : (φ.below m).le (φ'.below m') := fun p L hp => by
  obtain ⟨h1, h2⟩ := Phi.below_some hp
  exact Phi.below_of (by omega) (h p L h2)
theorem relO_mono {φ φ' : Phi} {w : World} {b : GObj} {L : Loc} (h : φ.le φ') (hr : relO φ w b L) : relO φ' w b L := relO_other h rfl hr

/-- A row that may be written. -/
def RowW (b : GObj) : Prop := b.isRow = true ∧ b.wr = true
theorem conv_same {ρ : Opd → GV} {h h' : Heap} {x : Opd} {v : GV} (hg : nop ρ h (.conv x) = some (v, h')) : h' = h ∧ v = ρ x ∧ ∃ p o len cap e, v = .sl p o len cap e ∧ RowW (Tr.get .gone p h.t) := by
  have hg1 : nConv (ρ x) h = some (v, h') := hg
  unfold nConv at hg1
  split at hg1 <;> try cases hg1
  rename_i p o len cap e hx
  obtain ⟨h1, h2⟩ := ifb_some hg1
  obtain ⟨h3, h4⟩ := ifb_some h2
  simp only [Option.some.injEq, Prod.mk.injEq] at h4
  obtain ⟨rfl, rfl⟩ := h4
  rw [hget_eq] at h1 h3
  exact ⟨rfl, hx.symm, p, o, len, cap, e, rfl, h1, h3⟩

section
variable (P : Program) (ops : Array Oper) (gs : List GOper) (fr : Tr GV) (E : Nat → Env) (H : Nat → Heap) (V : Nat → GV)

def clsAt (i : Nat) : Cls := match gs[i]? with | some g => clsOf g.op | none => .p
def isEW (i : Nat) : Prop := clsAt gs i = .e ∨ clsAt gs i = .w

/-- The ghost's run in the order of the text. -/
structure Txt : Prop where
  len : gs.length = ops.size
  step : ∀ i o g, ops[i]? = some o → gs[i]? = some g → StepFact P ops fr o g (E i) (H i) (V i) (E (i + 1)) (H (i + 1))
  mon : ∀ i, i < ops.size → (H i).nx.nat ≤ (H (i + 1)).nx.nat
  new : ∀ i, i ≤ ops.size → ∀ p : Pos, (H i).nx.nat ≤ p.nat → Tr.get .gone p (H i).t = .gone

variable {P ops gs fr E H V}
theorem Txt.nx (T : Txt P ops gs fr E H V) : ∀ j i, i ≤ j → j ≤ ops.size → (H i).nx.nat ≤ (H j).nx.nat := by
  intro j
  induction j with
  | zero => intro i h _; obtain rfl : i = 0 := (by omega); exact Nat.le_refl _
  | succ j ih =>
    intro i h hj
    rcases Nat.lt_or_ge i (j + 1) with h1 | h1
    · exact Nat.le_trans (ih i (by omega) (by omega)) (T.mon j (by omega))
    · obtain rfl : i = j + 1 := by omega
      exact Nat.le_refl _
theorem Txt.get (T : Txt P ops gs fr E H V) {i : Nat} (hi : i < ops.size) : ∃ o g, ops[i]? = some o ∧ gs[i]? = some g ∧ clsAt gs i = clsOf g.op := by
  have h2 : gs[i]? = some (gs[i]'(by rw [T.len]; exact hi)) := List.getElem?_eq_getElem _
  exact ⟨ops[i], _, Array.getElem?_eq_getElem hi, h2, by simp [clsAt, h2]⟩

/-- What an operation that is no call and no store does to the ghost's heap. -/
theorem Txt.quiet (T : Txt P ops gs fr E H V) {i : Nat} (hi : i < ops.size) (hq : ¬ isEW gs i) :
    H (i + 1) = H i ∨ (clsAt gs i = .a ∧ ∃ b, H (i + 1) = ⟨Tr.set .gone b (H i).nx (H i).t, (H i).nx.succ⟩) := by
  obtain ⟨o, g, ho, hg, hc⟩ := T.get hi
  obtain ⟨-, h | ⟨-, hrf, -⟩⟩ := T.step i o g ho hg
  · exact .inl h.2.1
  · cases hop : g.op with
    | p q => rw [hop] at hrf; exact .inl hrf.2
    | r q => rw [hop] at hrf; exact .inl hrf.2
    | w q => exact absurd (by rw [isEW, hc, hop]; exact .inr rfl) hq
    | call f xs => exact absurd (by rw [isEW, hc, hop]; exact .inl rfl) hq
    | callv f xs => exact absurd (by rw [isEW, hc, hop]; exact .inl rfl) hq
    | n q =>
      rw [hop] at hrf
      have hcls : clsOf (.n q) = .a ∨ clsOf (.n q) = .e ∨ ∃ x, q = .conv x := by cases q <;> first | exact .inl rfl | exact .inr (.inl rfl) | exact .inr (.inr ⟨_, rfl⟩)
      rcases hcls with h | h | ⟨x, rfl⟩
      · obtain ⟨b, hb, -⟩ := alloc_shape h hrf
        exact .inr ⟨by rw [hc, hop, h], b, hb⟩
      · exact absurd (by rw [isEW, hc, hop]; exact .inl h) hq
      · exact .inl (conv_same hrf).1
theorem Txt.keep (T : Txt P ops gs fr E H V) {p : Pos} : ∀ j i, i ≤ j → j ≤ ops.size → (∀ k, i ≤ k → k < j → ¬ isEW gs k) → p.nat < (H i).nx.nat → Tr.get GObj.gone p (H j).t = Tr.get .gone p (H i).t := by
  intro j
  induction j with
  | zero => intro i h _ _ _; obtain rfl : i = 0 := (by omega); rfl
  | succ j ih =>
    intro i h hj hq hp
    rcases Nat.lt_or_ge i (j + 1) with h1 | h1
    · rw [← ih i (by omega) (by omega) (fun k h2 h3 => hq k h2 (by omega)) hp]
      have hnx := T.nx j i (by omega) (by omega)
      rcases T.quiet (by omega) (hq j (by omega) (by omega)) with h2 | ⟨-, b, h2⟩
      · rw [h2]
      · rw [h2]
        exact Tr.get_set_ne _ _ _ _ _ (fun e => by rw [e] at hp; omega)
    · obtain rfl : i = j + 1 := by omega
      rfl

/-- Name p's object, as the run stands: c, S; m: where it stands in the text. -/
def Cur (ops : Array Oper) (gs : List GOper) (H : Nat → Heap) (c : Nat) (S : Nat → Prop) (p : Pos) (b : GObj) (m : Nat) : Prop :=
  (p.nat < (H c).nx.nat ∧ b = Tr.get .gone p (H c).t ∧ m = c) ∨
  (∃ k, S k ∧ c ≤ k ∧ k < ops.size ∧ clsAt gs k = .a ∧ (H k).nx.nat ≤ p.nat ∧ p.nat < (H (k + 1)).nx.nat ∧ b = Tr.get .gone p (H (k + 1)).t ∧ m = k + 1)

structure Inv (ops : Array Oper) (gs : List GOper) (fr : Tr GV) (E : Nat → Env) (H : Nat → Heap) (cx : Cx) (φ0 : Phi) (w0 : World) (S : Nat → Prop) (c : Nat) (φ : Phi) (a : Act) (w : World) : Prop where
  closed : Closed ops S
  lt : ∀ i, S i → i < ops.size
  cle : c ≤ ops.size
  cS : ∀ i, i < c → (isEW gs i ∨ clsAt gs i = .a) → S i
  ctop : c = 0 ∨ ∃ k, c = k + 1 ∧ S k ∧ isEW gs k
  cmax : ∀ i, S i → isEW gs i → i < c
  slot : ∀ t i, i ≤ ops.size → (∀ j o, j < i → ops[j]? = some o → o.dst = some t → S j) → (∀ j o, i ≤ j → ops[j]? = some o → o.dst = some t → ¬ S j) → rel (φ.below (H (max c i)).nx.nat) (elook t fr (E i)) (a.tmps.getD t undef)
  dom : ∀ p L, φ p = some L → L.r < w.heap.size ∧ ∃ b m, Cur ops gs H c S p b m
  obj : ∀ p L b m, φ p = some L → Cur ops gs H c S p b m → relO (φ.below (H m).nx.nat) w b L
  inj : ∀ p q L M b b' m m', φ p = some L → φ q = some M → Cur ops gs H c S p b m → Cur ops gs H c S q b' m' → b.live = true → b'.live = true → L.r = M.r → p = q
  size : a.tmps.size = cx.nt
  defers : a.defers = []
  le : φ0.le φ
  hsize : w0.heap.size ≤ w.heap.size
  same : ∀ r, r < w0.heap.size → ¬ Wr φ0 (H 0) r → w.heap[r]? = w0.heap[r]?
  wr : ∀ r, r < w0.heap.size → (∃ p L b m, φ p = some L ∧ L.r = r ∧ Cur ops gs H c S p b m ∧ b.wr = true) → Wr φ0 (H 0) r
  lv : ∀ r, r < w0.heap.size → (∃ p L b m, φ p = some L ∧ L.r = r ∧ Cur ops gs H c S p b m ∧ b.live = true) → Lv φ0 (H 0) r
  ids : ∀ p L, φ p = some L → φ0 p = none → (H 0).nx.nat ≤ p.nat
  tape : w.tape = w0.tape
  os : w.os = w0.os
  output : w.output = w0.output

variable {cx : Cx} {φ0 φ : Phi} {w0 w : World} {S : Nat → Prop} {c : Nat} {a : Act}

/-- The relation at place j, with names up to place k. -/
theorem Inv.hrel (T : Txt P ops gs fr E H V) (I : Inv ops gs fr E H cx φ0 w0 S c φ a w) {j k : Nat} (h1 : c ≤ j) (h2 : j ≤ k) (h3 : k ≤ ops.size) (hq : ∀ i, c ≤ i → i < j → ¬ isEW gs i) :
    HRel (φ.below (H k).nx.nat) ⟨(H j).t, (H k).nx⟩ w := by
  have cur : ∀ p L, φ p = some L → Tr.get GObj.gone p (H j).t = .gone ∨ ∃ b m, Cur ops gs H c S p b m ∧ b = Tr.get .gone p (H j).t ∧ m ≤ j := by
    intro p L hp
    obtain ⟨-, b, m, hc⟩ := I.dom p L hp
    rcases hc with ⟨e1, e2, e3⟩ | ⟨i, e1, e2, e3, e4, e5, e6, e7, e8⟩
    · exact .inr ⟨b, m, .inl ⟨e1, e2, e3⟩, by rw [e2, T.keep j c h1 (by omega) hq e1], by omega⟩
    · rcases Nat.lt_or_ge i j with h4 | h4
      · exact .inr ⟨b, m, .inr ⟨i, e1, e2, e3, e4, e5, e6, e7, e8⟩, by rw [e7, T.keep j (i + 1) (by omega) (by omega) (fun l h5 h6 => hq l (by omega) h6) e6], by omega⟩
      · exact .inl (T.new j (by omega) p (Nat.le_trans (T.nx i j h4 (by omega)) e5))
  refine ⟨fun p L hp => ?_, fun p L hp => ?_, fun p q L M hp hq' l1 l2 e => ?_, fun p hp => ?_⟩
  · obtain ⟨hlt, hp⟩ := Phi.below_some hp
    simp only
    rcases cur p L hp with h4 | ⟨b, m, hc, hb, hm⟩
    · rw [h4]; trivial
    · rw [← hb]
      exact relO_mono (Phi.below_le (.refl φ) (T.nx k m (by omega) h3)) (I.obj p L b m hp hc)
  · obtain ⟨hlt, hp⟩ := Phi.below_some hp
    exact ⟨(I.dom p L hp).1, hlt⟩
  · obtain ⟨-, hp⟩ := Phi.below_some hp
    obtain ⟨-, hq'⟩ := Phi.below_some hq'
    simp only at l1 l2
    rcases cur p L hp with h4 | ⟨b, m, hc, hb, hm⟩
    · rw [h4] at l1; cases l1
    rcases cur q M hq' with h4 | ⟨b', m', hc', hb', hm'⟩
    · rw [h4] at l2; cases l2
    exact I.inj p q L M b b' m m' hp hq' hc hc' (by rw [hb]; exact l1) (by rw [hb']; exact l2) e
  · exact T.new j (by omega) p (Nat.le_trans (T.nx k j h2 h3) hp)

end
end
end Go.Ev
