/- The relation between ghost values and blocks and the model's. -/
import Derived.Test.YtbofkbhobcahiaaGreatEvComp
import Derived.Tactics
namespace Go.Ev
noncomputable section

/-! Numerals, trees. -/
theorem Pos.nat_pos (p : Pos) : 0 < p.nat := by induction p <;> simp [Pos.nat] <;> omega
theorem Pos.nat_succ (p : Pos) : p.succ.nat = p.nat + 1 := by induction p <;> simp [Pos.nat, Pos.succ, *] <;> omega
theorem Pos.nat_of (n : Nat) : (Pos.of n).nat = n + 1 := by induction n <;> simp [Pos.of, Pos.nat, Pos.nat_succ, *]
theorem Pos.nat_inj : ∀ {p q : Pos}, p.nat = q.nat → p = q
  | .h, .h, _ => rfl
  | .h, .o q, e => by have := q.nat_pos; simp [Pos.nat] at e; omega
  | .h, .i q, e => by have := q.nat_pos; simp [Pos.nat] at e; omega
  | .o p, .h, e => by have := p.nat_pos; simp [Pos.nat] at e; omega
  | .o p, .o q, e => by simp [Pos.nat] at e; rw [Pos.nat_inj (p := p) (q := q) (by omega)]
  | .o p, .i q, e => by simp [Pos.nat] at e; omega
  | .i p, .h, e => by have := p.nat_pos; simp [Pos.nat] at e; omega
  | .i p, .o q, e => by simp [Pos.nat] at e; omega
  | .i p, .i q, e => by simp [Pos.nat] at e; rw [Pos.nat_inj (p := p) (q := q) (by omega)]
theorem Pos.of_inj {a b : Nat} (h : Pos.of a = Pos.of b) : a = b := by have := congrArg Pos.nat h; simpa [Pos.nat_of] using this

/-- What setK hands on. -/
def Tr.set {α : Type} (d : α) (v : α) (p : Pos) (t : Tr α) : Tr α := Tr.setK d v p t id
theorem Tr.setK_eq {α : Type} (d v : α) (p : Pos) : ∀ {β : Type} (t : Tr α) (k : Tr α → β), Tr.setK d v p t k = k (Tr.set d v p t) := by
  induction p with
  | h => intro β t k; cases t <;> rfl
  | o p ih => intro β t k; cases t <;> (show Tr.setK d v p _ _ = k (Tr.setK d v p _ _); rw [ih, ih]; rfl)
  | i p ih => intro β t k; cases t <;> (show Tr.setK d v p _ _ = k (Tr.setK d v p _ _); rw [ih, ih]; rfl)
theorem Tr.get_leaf {α : Type} (d : α) (p : Pos) : Tr.get d p (.leaf : Tr α) = d := by cases p <;> rfl
theorem Tr.get_set {α : Type} (d v : α) (p : Pos) : ∀ (t : Tr α), Tr.get d p (Tr.set d v p t) = v := by
  induction p with
  | h => intro t; cases t <;> rfl
  | o p ih => intro t; cases t <;> (unfold Tr.set; show Tr.get d _ (Tr.setK d v p _ _) = v; rw [Tr.setK_eq]; exact ih _)
  | i p ih => intro t; cases t <;> (unfold Tr.set; show Tr.get d _ (Tr.setK d v p _ _) = v; rw [Tr.setK_eq]; exact ih _)
theorem Tr.get_set_ne {α : Type} (d v : α) : ∀ (p q : Pos) (t : Tr α), q ≠ p → Tr.get d q (Tr.set d v p t) = Tr.get d q t := by
  intro p
  induction p with
  | h => intro q t hq; cases q <;> cases t <;> first | exact absurd rfl hq | rfl | exact Tr.get_leaf _ _
  | o p ih =>
    intro q t hq
    have e : Tr.set d v (.o p) t = Tr.casesOn (motive := fun _ => Tr α) t (.node (Tr.set d v p .leaf) d .leaf) (fun l x r => .node (Tr.set d v p l) x r) := by
      unfold Tr.set; cases t <;> (show Tr.setK d v p _ _ = _; rw [Tr.setK_eq]; rfl)
    rw [e]
    cases t <;> cases q <;> first
      | rfl
      | exact Tr.get_leaf _ _
      | (rename_i q; show Tr.get d q (Tr.set d v p _) = _; rw [ih q _ (fun h => hq (h ▸ rfl))]; first | rfl | exact Tr.get_leaf _ _)
  | i p ih =>
    intro q t hq
    have e : Tr.set d v (.i p) t = Tr.casesOn (motive := fun _ => Tr α) t (.node .leaf d (Tr.set d v p .leaf)) (fun l x r => .node l x (Tr.set d v p r)) := by
      unfold Tr.set; cases t <;> (show Tr.setK d v p _ _ = _; rw [Tr.setK_eq]; rfl)
    rw [e]
    cases t <;> cases q <;> first
      | rfl
      | exact Tr.get_leaf _ _
      | (rename_i q; show Tr.get d q (Tr.set d v p _) = _; rw [ih q _ (fun h => hq (h ▸ rfl))]; first | rfl | exact Tr.get_leaf _ _)

/-! Small words. -/
@[simp] theorem force_eq {β : Type} (n : Nat) (k : Nat → β) : force n k = k n := by cases n <;> rfl
@[simp] theorem forceI_eq {β : Type} (z : Int) (k : Int → β) : forceI z k = k z := by cases z <;> simp [forceI]
@[simp] theorem forceG_eq {β : Type} (v : GV) (k : GV → β) : forceG v k = k v := by cases v <;> rfl
@[simp] theorem forceL_eq {β : Type} (l : List GV) : ∀ (k : List GV → β), forceL l k = k l := by
  induction l with
  | nil => intro k; rfl
  | cons x l ih => intro k; show forceL l (fun l => k (x :: l)) = _; rw [ih]
theorem ifb_eq {β : Type} (b : Bool) (x y : β) : ifb b x y = if b then x else y := by cases b <;> rfl
theorem ikEq_iff (a b : IntKind) : ikEq a b = true ↔ a = b := by cases a <;> cases b <;> decide
theorem obind_some {α β : Type} {x : Option α} {k : α → Option β} {r : β} (h : obind x k = some r) : ∃ a, x = some a ∧ k a = some r := by
  cases x with
  | none => cases h
  | some a => exact ⟨a, rfl, h⟩
theorem ifb_some {β : Type} {b : Bool} {x : Option β} {r : β} (h : ifb b x none = some r) : b = true ∧ x = some r := by
  cases b with
  | false => cases h
  | true => exact ⟨rfl, h⟩

/-! Lists side by side. -/
def All2 {α β : Type} (S : α → β → Prop) : List α → List β → Prop
  | [], [] => True
  | a :: as, b :: bs => S a b ∧ All2 S as bs
  | _, _ => False
theorem All2.mono {α β : Type} {S S' : α → β → Prop} (h : ∀ a b, S a b → S' a b) : ∀ {l : List α} {l' : List β}, All2 S l l' → All2 S' l l'
  | [], [], _ => trivial
  | _ :: _, _ :: _, h' => ⟨h _ _ h'.1, h'.2.mono h⟩
theorem All2.length {α β : Type} {S : α → β → Prop} : ∀ {l : List α} {l' : List β}, All2 S l l' → l.length = l'.length
  | [], [], _ => rfl
  | _ :: _, _ :: _, h => by simp [h.2.length]
theorem All2.get {α β : Type} {S : α → β → Prop} : ∀ {l : List α} {l' : List β}, All2 S l l' → ∀ (i : Nat) (a : α), l[i]? = some a → ∃ b, l'[i]? = some b ∧ S a b
  | [], [], _, i, a, h => by simp at h
  | x :: l, y :: l', h, 0, a, ha => by simp at ha; subst ha; exact ⟨y, rfl, h.1⟩
  | x :: l, y :: l', h, i + 1, a, ha => by simpa using h.2.get i a (by simpa using ha)
theorem All2.of_get {α β : Type} {S : α → β → Prop} : ∀ {l : List α} {l' : List β}, l.length = l'.length → (∀ (i : Nat) (a : α) (b : β), l[i]? = some a → l'[i]? = some b → S a b) → All2 S l l'
  | [], [], _, _ => trivial
  | [], _ :: _, h, _ => by simp at h
  | _ :: _, [], h, _ => by simp at h
  | a :: l, b :: l', h, hs => ⟨hs 0 a b rfl rfl, All2.of_get (by simpa using h) fun i a b ha hb => hs (i + 1) a b (by simpa using ha) (by simpa using hb)⟩
theorem All2.app {α β : Type} {S : α → β → Prop} : ∀ {l : List α} {l' : List β} {m : List α} {m' : List β}, All2 S l l' → All2 S m m' → All2 S (l ++ m) (l' ++ m')
  | [], [], _, _, _, h => h
  | _ :: _, _ :: _, _, _, h, h' => ⟨h.1, h.2.app h'⟩
theorem All2.take {α β : Type} {S : α → β → Prop} : ∀ (n : Nat) {l : List α} {l' : List β}, All2 S l l' → All2 S (l.take n) (l'.take n)
  | 0, _, _, _ => by simp [All2]
  | n + 1, [], [], _ => by simp [All2]
  | n + 1, _ :: _, _ :: _, h => ⟨h.1, h.2.take n⟩
theorem All2.drop {α β : Type} {S : α → β → Prop} : ∀ (n : Nat) {l : List α} {l' : List β}, All2 S l l' → All2 S (l.drop n) (l'.drop n)
  | 0, _, _, h => by simpa using h
  | n + 1, [], [], _ => by simp [All2]
  | n + 1, _ :: _, _ :: _, h => by simpa using h.2.drop n

/-! The relation. -/
/-- Where a ghost block lies: the model's block, how far in it begins, that block's cells, the cells of one element. -/
structure Loc where
  r : Nat
  d : Nat
  n : Nat
  e : Nat
abbrev Phi := Pos → Option Loc

def relP (φ : Phi) : GV → Value → Prop
  | .ptr p o, v => ∃ L, φ p = some L ∧ v = .pointer (some ⟨L.r, L.d + o, none⟩)
  | _, _ => False

/-- One cell. -/
def relC (φ : Phi) : GV → Value → Prop
  | .bool b, v => v = .bool b
  | .int k z, v => v = .int k z
  | .str l n, v => ∃ s : ByteArray, v = .string s ∧ s.data.toList.length = l ∧ packB s.data.toList = n
  | .nilp, v => v = .pointer none
  | .ptr p o, v => ∃ L, φ p = some L ∧ v = .pointer (some ⟨L.r, L.d + o, none⟩)
  | .nils, v => v = .slice none 0 0
  | .sle, v => ∃ a c, v = .slice (some a) 0 c
  | .sl p o len cap e, v => ∃ L c, φ p = some L ∧ v = .slice (some ⟨L.r, L.d + o, none⟩) len c ∧ cap ≤ c ∧ (e = 0 → c = cap) ∧ (e ≠ 0 → L.d + o + c * e ≤ L.n)
  | .nilf, v => v = .nilFunc
  | .fn f cs, v => ∃ g cs', v = .func (.func g) #[] cs' ∧ f = Pos.of g ∧ All2 (relP φ) cs cs'.toList
  | .nilc, v => v = .chan none
  | .chn p, v => ∃ L, φ p = some L ∧ v = .chan (some L.r)
  | _, _ => False
/-- A cell or a struct. -/
def relA (φ : Phi) : GV → Value → Prop
  | .agg l, v => ∃ cs, v = .agg cs ∧ All2 (relC φ) l cs.toList
  | g, v => relC φ g v
/-- What a slot holds: of 'bad' nothing is known. -/
def rel (φ : Phi) : GV → Value → Prop
  | .bad, _ => True
  | .tup l, v => ∃ vs, v = .tuple vs ∧ All2 (relA φ) l vs.toList
  | g, v => relA φ g v

def Phi.le (φ φ' : Phi) : Prop := ∀ p L, φ p = some L → φ' p = some L
theorem Phi.le.refl (φ : Phi) : φ.le φ := fun _ _ h => h
theorem Phi.le.trans {φ φ' φ'' : Phi} (h : φ.le φ') (h' : φ'.le φ'') : φ.le φ'' := fun p L hp => h' p L (h p L hp)

theorem relP.mono {φ φ' : Phi} (h : φ.le φ') {g : GV} {v : Value} (hr : relP φ g v) : relP φ' g v := by
  cases g <;> simp only [relP] at * <;> try exact hr.elim
  obtain ⟨L, hp, hv⟩ := hr; exact ⟨L, h _ _ hp, hv⟩
theorem relC.mono {φ φ' : Phi} (h : φ.le φ') {g : GV} {v : Value} (hr : relC φ g v) : relC φ' g v := by
  cases g <;> simp only [relC] at * <;> try exact hr
  · obtain ⟨L, hp, hv⟩ := hr; exact ⟨L, h _ _ hp, hv⟩
  · obtain ⟨L, c, hp, hv⟩ := hr; exact ⟨L, c, h _ _ hp, hv⟩
  · obtain ⟨g, cs', hv, hf, ha⟩ := hr; exact ⟨g, cs', hv, hf, ha.mono fun _ _ => relP.mono h⟩
  · obtain ⟨L, hp, hv⟩ := hr; exact ⟨L, h _ _ hp, hv⟩
theorem relA.mono {φ φ' : Phi} (h : φ.le φ') {g : GV} {v : Value} (hr : relA φ g v) : relA φ' g v := by
  cases g <;> simp only [relA] at * <;> try exact hr.mono h
  obtain ⟨cs, hv, ha⟩ := hr; exact ⟨cs, hv, ha.mono fun _ _ => relC.mono h⟩
theorem rel.mono {φ φ' : Phi} (h : φ.le φ') {g : GV} {v : Value} (hr : rel φ g v) : rel φ' g v := by
  cases g <;> simp only [rel] at * <;> try exact hr.mono h
  obtain ⟨cs, hv, ha⟩ := hr; exact ⟨cs, hv, ha.mono fun _ _ => relA.mono h⟩

/-- The cells of a row: the cells, an element's size, may nobody write it? -/
def GObj.row : GObj → Option (List GV × Nat × Bool)
  | .cells l sz ro => some (l, sz, ro)
  | .pk k w len n ro => some (unpack k w n 0 len, 1, ro)
  | _ => none

/-- A row of the model's holds a ghost row, d cells in. -/
structure RowRel (φ : Phi) (w : World) (l : List GV) (sz : Nat) (ro : Bool) (L : Loc) (c : Array Value) (T : TypeId) (fz : Nat × Nat) : Prop where
  at_ : w.heap[L.r]? = some (.cells c T fz)
  size : c.size = L.n
  elem : L.e = sz
  frz : ro = false → fz.1 = fz.2 ∨ c.size ≤ fz.1
  cell : ∀ (i : Nat) (g : GV), l[i]? = some g → ∃ v, c[L.d + i]? = some v ∧ relC φ g v

theorem RowRel.free {φ : Phi} {w : World} {l : List GV} {sz : Nat} {L : Loc} {c : Array Value} {T : TypeId} {fz : Nat × Nat} (R : RowRel φ w l sz false L c T fz) : ∀ i, i < c.size → (decide (fz.1 ≤ i) && decide (i < fz.2)) = false := by
  intro i hi
  rcases R.frz rfl with h | h
  · simp only [Bool.and_eq_false_iff, decide_eq_false_iff_not]; omega
  · simp only [Bool.and_eq_false_iff, decide_eq_false_iff_not]; omega

def relO (φ : Phi) (w : World) (o : GObj) (L : Loc) : Prop :=
  match o with
  | .gone => True
  | .chan cap buf => ∃ b s r, w.heap[L.r]? = some (.chan cap b false s r false) ∧ All2 (relC φ) buf b.toList
  | o => ∃ l sz ro c T fz, o.row = some (l, sz, ro) ∧ RowRel φ w l sz ro L c T fz

def GObj.live : GObj → Bool
  | .gone => false
  | _ => true

structure HRel (φ : Phi) (h : Heap) (w : World) : Prop where
  obj : ∀ p L, φ p = some L → relO φ w (Tr.get .gone p h.t) L
  lt : ∀ p L, φ p = some L → L.r < w.heap.size ∧ p.nat < h.nx.nat
  inj : ∀ p q L M, φ p = some L → φ q = some M → (Tr.get .gone p h.t).live = true → (Tr.get .gone q h.t).live = true → L.r = M.r → p = q
  new : ∀ p, h.nx.nat ≤ p.nat → Tr.get .gone p h.t = .gone

/-- Block r may be written. -/
def Wr (φ : Phi) (h : Heap) (r : Nat) : Prop := ∃ p L, φ p = some L ∧ L.r = r ∧ (Tr.get .gone p h.t).wr = true

/-- Block r is held. -/
def Lv (φ : Phi) (h : Heap) (r : Nat) : Prop := ∃ p L, φ p = some L ∧ L.r = r ∧ (Tr.get .gone p h.t).live = true

/-- What a run leaves as it was. -/
structure Fr (φ : Phi) (h : Heap) (w : World) (φ' : Phi) (h' : Heap) (w' : World) : Prop where
  le : φ.le φ'
  size : w.heap.size ≤ w'.heap.size
  nx : h.nx.nat ≤ h'.nx.nat
  same : ∀ r, r < w.heap.size → ¬ Wr φ h r → w'.heap[r]? = w.heap[r]?
  wr : ∀ r, r < w.heap.size → Wr φ' h' r → Wr φ h r
  lv : ∀ r, r < w.heap.size → Lv φ' h' r → Lv φ h r
  ids : ∀ p L, φ' p = some L → φ p = none → h.nx.nat ≤ p.nat
  tape : w'.tape = w.tape
  os : w'.os = w.os
  output : w'.output = w.output

theorem Fr.refl (φ : Phi) (h : Heap) (w : World) : Fr φ h w φ h w :=
  ⟨.refl φ, Nat.le_refl _, Nat.le_refl _, fun _ _ _ => rfl, fun _ _ h => h, fun _ _ h => h, fun p L h h' => by (rw [h] at h'; cases h'), rfl, rfl, rfl⟩
theorem Fr.trans {φ φ' φ'' : Phi} {h h' h'' : Heap} {w w' w'' : World} (a : Fr φ h w φ' h' w') (b : Fr φ' h' w' φ'' h'' w'') : Fr φ h w φ'' h'' w'' where
  le := a.le.trans b.le
  size := Nat.le_trans a.size b.size
  nx := Nat.le_trans a.nx b.nx
  same r hr hn := (b.same r (Nat.lt_of_lt_of_le hr a.size) fun hw => hn (a.wr r hr hw)).trans (a.same r hr hn)
  wr r hr hw := a.wr r hr (b.wr r (Nat.lt_of_lt_of_le hr a.size) hw)
  lv r hr hw := a.lv r hr (b.lv r (Nat.lt_of_lt_of_le hr a.size) hw)
  ids p L hp hn := by
    cases hq : φ' p with
    | none => exact Nat.le_trans a.nx (b.ids p L hp hq)
    | some M => exact a.ids p M hq hn
  tape := b.tape.trans a.tape
  os := b.os.trans a.os
  output := b.output.trans a.output

/-- A draw changes nothing that is looked at. -/
def drewN (w : World) (n : Nat) : World := { w with drawn := w.drawn + n }
theorem HRel.drew {φ : Phi} {h : Heap} {w : World} (H : HRel φ h w) (n : Nat) : HRel φ h { w with drawn := n } :=
  ⟨fun p L hp => by
    have := H.obj p L hp
    unfold relO at *
    split <;> rename_i e <;> simp only [e] at this
    · trivial
    · exact this
    · obtain ⟨l, sz, ro, c, T, fz, hr, hR⟩ := this
      exact ⟨l, sz, ro, c, T, fz, hr, ⟨hR.at_, hR.size, hR.elem, hR.frz, hR.cell⟩⟩, H.lt, H.inj, H.new⟩
theorem Fr.drew {φ : Phi} {h : Heap} {w : World} (n : Nat) : Fr φ h w φ h { w with drawn := n } :=
  ⟨.refl φ, Nat.le_refl _, Nat.le_refl _, fun _ _ _ => rfl, fun _ _ h => h, fun _ _ h => h, fun p L h h' => by (rw [h] at h'; cases h'), rfl, rfl, rfl⟩

end
end Go.Ev
