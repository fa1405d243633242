/- Operations whose value hangs on their operands alone: the model's run gives a related value. -/
import Derived.Test.YtbofkbhobcahiaaGreatEvRel
import Derived.ChangeKeysEq
import Derived.Laws.StructEq
import Derived.Laws.Sem
import Derived.Laws.Entries
namespace Go.Ev
noncomputable section

/-- What a ghost operation looks at is related to what the model's looks at. -/
structure Opnds (φ : Phi) (ρ : Opd → GV) (a : Act) (o : Op) : Prop where
  c : ∀ g, ρ (.c g) = g
  x : ∀ x, x ∈ o.operands → ∀ y, compOpd x = some y → rel φ (ρ y) (a.eval x)

/-! What is known of a value that a ghost operation has taken apart. -/
theorem rel_ptr {φ : Phi} {p : Pos} {o : Nat} {v : Value} (h : rel φ (.ptr p o) v) : ∃ L, φ p = some L ∧ v = .pointer (some ⟨L.r, L.d + o, none⟩) := h
theorem rel_int {φ : Phi} {k : IntKind} {z : Int} {v : Value} (h : rel φ (.int k z) v) : v = .int k z := h
theorem rel_bool {φ : Phi} {b : Bool} {v : Value} (h : rel φ (.bool b) v) : v = .bool b := h
theorem asPtr_some {β : Type} {v : GV} {f : Pos → Nat → Option β} {r : β} (h : v.asPtr f = some r) : ∃ p o, v = .ptr p o ∧ f p o = some r := by
  cases v <;> first | cases h | exact ⟨_, _, rfl, h⟩
theorem asInt_some {β : Type} {v : GV} {f : IntKind → Int → Option β} {r : β} (h : v.asInt f = some r) : ∃ k z, v = .int k z ∧ f k z = some r := by
  cases v <;> first | cases h | exact ⟨_, _, rfl, h⟩
theorem asBool_some {β : Type} {v : GV} {f : Bool → Option β} {r : β} (h : v.asBool f = some r) : ∃ b, v = .bool b ∧ f b = some r := by
  cases v <;> first | cases h | exact ⟨_, rfl, h⟩
theorem asAgg_some {β : Type} {v : GV} {f : List GV → Option β} {r : β} (h : v.asAgg f = some r) : ∃ l, v = .agg l ∧ f l = some r := by
  cases v <;> first | cases h | exact ⟨_, rfl, h⟩
theorem asNat_some {β : Type} {v : GV} {f : Nat → Option β} {r : β} (h : v.asNat f = some r) : ∃ k n, v = .int k (.ofNat n) ∧ f n = some r := by
  cases v with
  | int k z => cases z with
    | ofNat n => exact ⟨k, n, rfl, h⟩
    | negSucc n => cases h
  | _ => cases h
theorem int2_some {β : Type} {a b : GV} {f : IntKind → Int → Int → Option β} {r : β} (h : int2 a b f = some r) : ∃ k x y, a = .int k x ∧ b = .int k y ∧ f k x y = some r := by
  unfold int2 at h
  obtain ⟨k, x, rfl, h1⟩ := asInt_some h
  obtain ⟨k', y, rfl, h2⟩ := asInt_some (v := b) h1
  obtain ⟨hk, h3⟩ := ifb_some h2
  rw [ikEq_iff] at hk; subst hk
  exact ⟨k, x, y, rfl, rfl, h3⟩
theorem mkI_some {k : IntKind} {z : Int} {v : GV} (h : mkI k z = some v) : v = .int k z := by simp [mkI] at h; exact h.symm
theorem mkB_some {b : Bool} {v : GV} (h : mkB b = some v) : v = .bool b := by cases b <;> (simp [mkB, ifb] at h; exact h.symm)

/-! Arithmetic: the fast ways are the model's. -/
theorem wrap_small (k : IntKind) (n : Nat) (h : n < lim k) : k.wrap (Int.ofNat n) = Int.ofNat n := by
  cases k <;> simp only [lim] at h <;> simp [IntKind.wrap, IntKind.bits, IntKind.signed] <;> omega
theorem wrapF_eq (k : IntKind) (z : Int) : wrapF k z = k.wrap z := by
  cases z with
  | negSucc n => rfl
  | ofNat n =>
    show ifb (Nat.blt n (lim k)) (Int.ofNat n) (k.wrap (.ofNat n)) = _
    rw [ifb_eq]; split
    · rename_i h; exact (wrap_small k n (by simpa [Nat.blt_eq] using h)).symm
    · rfl
theorem addF_eq (x y : Int) : addF x y = x + y := by cases x <;> cases y <;> rfl
theorem mulF_eq (x y : Int) : mulF x y = x * y := by cases x <;> cases y <;> rfl
theorem subF_eq (x y : Int) : subF x y = x - y := by
  cases x with
  | negSucc a => rfl
  | ofNat a => cases y with
    | negSucc b => rfl
    | ofNat b =>
      show ifb (Nat.ble b a) (Int.ofNat (a - b)) (Int.ofNat a - Int.ofNat b) = _
      rw [ifb_eq]; split
      · rename_i h
        have : b ≤ a := by simpa using h
        simp only [Int.ofNat_eq_natCast]; omega
      · rfl
theorem quoF_eq (x y : Int) : quoF x y = x.tdiv y := by cases x <;> cases y <;> rfl
theorem remF_eq (x y : Int) : remF x y = x.tmod y := by cases x <;> cases y <;> rfl
theorem ieq_eq (x y : Int) : ieq x y = (x == y) := by
  cases x with
  | ofNat a => cases y with
    | ofNat b => show Nat.beq a b = _; rw [Bool.eq_iff_iff]; simp [Nat.beq_eq]; omega
    | negSucc b => rfl
  | negSucc a => cases y with
    | ofNat b => rfl
    | negSucc b => show Nat.beq a b = _; rw [Bool.eq_iff_iff]; simp [Nat.beq_eq]
theorem ilt_eq (x y : Int) : ilt x y = decide (x < y) := by
  cases x with
  | ofNat a => cases y with
    | ofNat b => show Nat.blt a b = _; rw [Bool.eq_iff_iff]; simp [Nat.blt_eq]
    | negSucc b => show false = _; simp; omega
  | negSucc a => cases y with
    | ofNat b => show true = _; simp; omega
    | negSucc b => show Nat.blt b a = _; rw [Bool.eq_iff_iff]; simp [Nat.blt_eq]; omega

theorem land_lt {w a b : Nat} (ha : a < 2 ^ w) : a &&& b < 2 ^ w := Nat.lt_of_le_of_lt Nat.and_le_left ha
theorem bitsF_and (k : IntKind) (x y : Int) : bitsF .and Nat.land k x y = k.wrap (BitVec.ofInt k.bits x &&& BitVec.ofInt k.bits y).toNat := by
  cases x with
  | negSucc a => rfl
  | ofNat a => cases y with
    | negSucc b => rfl
    | ofNat b =>
      show ifb (Nat.blt a (lim k)) (ifb (Nat.blt b (lim k)) (wrapF k (.ofNat (Nat.land a b))) (bitsM .and k (.ofNat a) (.ofNat b))) (bitsM .and k (.ofNat a) (.ofNat b)) = _
      rw [ifb_eq, ifb_eq]
      split
      · rename_i ha
        split
        · rename_i hb
          rw [wrapF_eq]
          congr 1
          have ha' : a < 2 ^ k.bits := by have : a < lim k := by simpa [Nat.blt_eq] using ha
                                          cases k <;> simp only [lim, IntKind.bits] at * <;> omega
          have hb' : b < 2 ^ k.bits := by have : b < lim k := by simpa [Nat.blt_eq] using hb
                                          cases k <;> simp only [lim, IntKind.bits] at * <;> omega
          simp only [Int.ofNat_eq_natCast, BitVec.ofInt_natCast, BitVec.toNat_and, BitVec.toNat_ofNat, Nat.mod_eq_of_lt ha', Nat.mod_eq_of_lt hb']
          rfl
        · rfl
      · rfl
theorem bitsF_or (k : IntKind) (x y : Int) : bitsF .or Nat.lor k x y = k.wrap (BitVec.ofInt k.bits x ||| BitVec.ofInt k.bits y).toNat := by
  cases x with
  | negSucc a => rfl
  | ofNat a => cases y with
    | negSucc b => rfl
    | ofNat b =>
      show ifb (Nat.blt a (lim k)) (ifb (Nat.blt b (lim k)) (wrapF k (.ofNat (Nat.lor a b))) (bitsM .or k (.ofNat a) (.ofNat b))) (bitsM .or k (.ofNat a) (.ofNat b)) = _
      rw [ifb_eq, ifb_eq]
      split
      · rename_i ha
        split
        · rename_i hb
          rw [wrapF_eq]
          congr 1
          have ha' : a < 2 ^ k.bits := by have : a < lim k := by simpa [Nat.blt_eq] using ha
                                          cases k <;> simp only [lim, IntKind.bits] at * <;> omega
          have hb' : b < 2 ^ k.bits := by have : b < lim k := by simpa [Nat.blt_eq] using hb
                                          cases k <;> simp only [lim, IntKind.bits] at * <;> omega
          simp only [Int.ofNat_eq_natCast, BitVec.ofInt_natCast, BitVec.toNat_or, BitVec.toNat_ofNat, Nat.mod_eq_of_lt ha', Nat.mod_eq_of_lt hb']
          rfl
        · rfl
      · rfl
theorem bitsF_xor (k : IntKind) (x y : Int) : bitsF .xor Nat.xor k x y = k.wrap (BitVec.ofInt k.bits x ^^^ BitVec.ofInt k.bits y).toNat := by
  cases x with
  | negSucc a => rfl
  | ofNat a => cases y with
    | negSucc b => rfl
    | ofNat b =>
      show ifb (Nat.blt a (lim k)) (ifb (Nat.blt b (lim k)) (wrapF k (.ofNat (Nat.xor a b))) (bitsM .xor k (.ofNat a) (.ofNat b))) (bitsM .xor k (.ofNat a) (.ofNat b)) = _
      rw [ifb_eq, ifb_eq]
      split
      · rename_i ha
        split
        · rename_i hb
          rw [wrapF_eq]
          congr 1
          have ha' : a < 2 ^ k.bits := by have : a < lim k := by simpa [Nat.blt_eq] using ha
                                          cases k <;> simp only [lim, IntKind.bits] at * <;> omega
          have hb' : b < 2 ^ k.bits := by have : b < lim k := by simpa [Nat.blt_eq] using hb
                                          cases k <;> simp only [lim, IntKind.bits] at * <;> omega
          simp only [Int.ofNat_eq_natCast, BitVec.ofInt_natCast, BitVec.toNat_xor, BitVec.toNat_ofNat, Nat.mod_eq_of_lt ha', Nat.mod_eq_of_lt hb']
          rfl
        · rfl
      · rfl
theorem shrF_eq (x : Int) (n : Nat) : shrF x n = x.fdiv (2 ^ n) := by
  cases x with
  | negSucc a => rfl
  | ofNat a =>
    show Int.ofNat (a / 2 ^ n) = _
    rw [Int.fdiv_eq_ediv_of_nonneg _ (by have : (0 : Int) < 2 ^ n := Int.pow_pos (by omega); omega)]
    simp
theorem shlF_eq (k : IntKind) (x : Int) (n : Nat) : shlF k x n = k.wrap (x * 2 ^ n) := by
  unfold shlF; rw [wrapF_eq, mulF_eq]; congr 2
theorem min_eq (y : Nat) (k : IntKind) : ifb (Nat.ble y k.bits) y k.bits = min y k.bits := by
  rw [ifb_eq, Nat.min_def]; split <;> split <;> simp_all

theorem int2_rel {φ : Phi} {a b v : GV} {x y : Value} {f : IntKind → Int → Int → Option GV} (h : int2 a b f = some v) (ha : rel φ a x) (hb : rel φ b y) :
    ∃ k x' y', x = .int k x' ∧ y = .int k y' ∧ f k x' y' = some v := by
  obtain ⟨k, x', y', rfl, rfl, h2⟩ := int2_some h
  exact ⟨k, x', y', rel_int ha, rel_int hb, h2⟩
theorem rel_int_iff {φ : Phi} {k : IntKind} {z : Int} {v : Value} : rel φ (.int k z) v ↔ v = .int k z := Iff.rfl
theorem rel_bool_iff {φ : Phi} {b : Bool} {v : Value} : rel φ (.bool b) v ↔ v = .bool b := Iff.rfl

/-- Two numbers of one kind, by the model. -/
theorem binOp_int (P : Program) (w : World) (op : BinOp) (t : TypeId) (a b v : GV) (x y : Value) (φ : Phi) (ha : rel φ a x) (hb : rel φ b y) (h : pBin op a b = some v)
    (hop : op ≠ .eql ∧ op ≠ .neq) : ∃ u, (Go.binOp op t x y).run P w = .ok u w ∧ rel φ v u := by
  cases op with
  | eql => exact absurd rfl hop.1
  | neq => exact absurd rfl hop.2
  | add =>
    obtain ⟨k, x', y', rfl, rfl, h⟩ := int2_rel h ha hb
    obtain rfl := mkI_some h
    refine ⟨_, ?_, rfl⟩
    rw [wrapF_eq, addF_eq]
    simp [Go.binOp, Op.intArith, Op.intBits, Sem.run, pure]
  | sub =>
    obtain ⟨k, x', y', rfl, rfl, h⟩ := int2_rel h ha hb
    obtain rfl := mkI_some h
    refine ⟨_, ?_, rfl⟩
    rw [wrapF_eq, subF_eq]
    simp [Go.binOp, Op.intArith, Op.intBits, Sem.run, pure]
  | mul =>
    obtain ⟨k, x', y', rfl, rfl, h⟩ := int2_rel h ha hb
    obtain rfl := mkI_some h
    refine ⟨_, ?_, rfl⟩
    rw [wrapF_eq, mulF_eq]
    simp [Go.binOp, Op.intArith, Op.intBits, Sem.run, pure]
  | and =>
    obtain ⟨k, x', y', rfl, rfl, h⟩ := int2_rel h ha hb
    obtain rfl := mkI_some h
    refine ⟨_, ?_, rfl⟩
    rw [bitsF_and]
    simp [Go.binOp, Op.intArith, Op.intBits, Sem.run, pure]
  | or =>
    obtain ⟨k, x', y', rfl, rfl, h⟩ := int2_rel h ha hb
    obtain rfl := mkI_some h
    refine ⟨_, ?_, rfl⟩
    rw [bitsF_or]
    simp [Go.binOp, Op.intArith, Op.intBits, Sem.run, pure]
  | xor =>
    obtain ⟨k, x', y', rfl, rfl, h⟩ := int2_rel h ha hb
    obtain rfl := mkI_some h
    refine ⟨_, ?_, rfl⟩
    rw [bitsF_xor]
    simp [Go.binOp, Op.intArith, Op.intBits, Sem.run, pure]
  | andNot =>
    obtain ⟨k, x', y', rfl, rfl, h⟩ := int2_rel h ha hb
    obtain rfl := mkI_some h
    refine ⟨_, ?_, rfl⟩
    show _ = Result.ok (Value.int k (k.wrap (BitVec.ofInt k.bits x' &&& ~~~BitVec.ofInt k.bits y').toNat)) w
    simp [Go.binOp, Op.intArith, Op.intBits, Sem.run, pure]
  | quo =>
    obtain ⟨k, x', y', rfl, rfl, h⟩ := int2_rel h ha hb
    cases hz : ieq y' (.ofNat 0) with
    | true => rw [hz] at h; cases h
    | false =>
      rw [hz] at h
      obtain rfl := mkI_some h
      have hy : ¬ y' = 0 := by rw [ieq_eq] at hz; simpa using hz
      refine ⟨_, ?_, rfl⟩
      rw [wrapF_eq, quoF_eq]
      simp [Go.binOp, Op.intDiv, Sem.run, pure, hy]
  | rem =>
    obtain ⟨k, x', y', rfl, rfl, h⟩ := int2_rel h ha hb
    cases hz : ieq y' (.ofNat 0) with
    | true => rw [hz] at h; cases h
    | false =>
      rw [hz] at h
      obtain rfl := mkI_some h
      have hy : ¬ y' = 0 := by rw [ieq_eq] at hz; simpa using hz
      refine ⟨_, ?_, rfl⟩
      rw [remF_eq]
      simp [Go.binOp, Op.intDiv, Sem.run, pure, hy]
  | shl =>
    obtain ⟨k, x', rfl, h1⟩ := asInt_some h
    obtain ⟨k', n, rfl, h2⟩ := asNat_some (v := b) h1
    obtain rfl := rel_int ha
    obtain rfl := rel_int hb
    obtain rfl := mkI_some h2
    have hn : ¬ ((n : Int) < 0) := by omega
    refine ⟨_, ?_, rfl⟩
    rw [shlF_eq, min_eq]
    simp [Go.binOp, Op.shift, Sem.run, pure, hn]
  | shr =>
    obtain ⟨k, x', rfl, h1⟩ := asInt_some h
    obtain ⟨k', n, rfl, h2⟩ := asNat_some (v := b) h1
    obtain rfl := rel_int ha
    obtain rfl := rel_int hb
    obtain rfl := mkI_some h2
    have hn : ¬ ((n : Int) < 0) := by omega
    refine ⟨_, ?_, rfl⟩
    rw [shrF_eq, min_eq]
    simp [Go.binOp, Op.shift, Sem.run, pure, hn]
  | lss =>
    obtain ⟨k, x', y', rfl, rfl, h⟩ := int2_rel h ha hb
    obtain rfl := mkB_some h
    refine ⟨_, ?_, rfl⟩
    rw [ilt_eq]
    simp [Go.binOp, Op.intCmp, Sem.run, pure]
    try (rw [Bool.eq_iff_iff]; simp)
  | gtr =>
    obtain ⟨k, x', y', rfl, rfl, h⟩ := int2_rel h ha hb
    obtain rfl := mkB_some h
    refine ⟨_, ?_, rfl⟩
    rw [ilt_eq]
    simp [Go.binOp, Op.intCmp, Sem.run, pure]
    try (rw [Bool.eq_iff_iff]; simp)
  | leq =>
    obtain ⟨k, x', y', rfl, rfl, h⟩ := int2_rel h ha hb
    obtain rfl := mkB_some h
    refine ⟨_, ?_, rfl⟩
    rw [ilt_eq]
    simp [Go.binOp, Op.intCmp, Sem.run, pure]
    try (rw [Bool.eq_iff_iff]; simp)
  | geq =>
    obtain ⟨k, x', y', rfl, rfl, h⟩ := int2_rel h ha hb
    obtain rfl := mkB_some h
    refine ⟨_, ?_, rfl⟩
    rw [ilt_eq]
    simp [Go.binOp, Op.intCmp, Sem.run, pure]
    try (rw [Bool.eq_iff_iff]; simp)

/-! One operation after the other. -/
section
variable {P : Program} {φ : Phi} {ρ : Opd → GV} {a : Act} {o : Oper} {w : World}

theorem isAggT_some {t : TypeId} {b : Bool} (h : isAggT P t = some b) (w : World) : (isAgg t).run P w = .ok b w := by
  unfold isAggT at h
  cases hu : P.underlying t with
  | none => simp [hu] at h
  | some d =>
    simp only [hu, Option.map_some, Option.some.injEq] at h
    unfold isAgg
    rw [Sem.run_bind, run_underlying hu]
    subst h
    cases d <;> rfl
theorem szOf_some {t : TypeId} {n : Nat} (h : szOf P t = some n) (w : World) : (sizeOf t).run P w = .ok n w := by
  unfold szOf at h
  cases hi : P.info? t with
  | none => simp [hi] at h
  | some i =>
    simp only [hi, Option.map_some, Option.some.injEq] at h
    rw [run_sizeOf w hi]; congr 1; simp [Program.cellsOf, hi, h]
theorem compO_some {x : Option Operand} {y : Option Opd} (h : compO x = some y) : (x = none ∧ y = none) ∨ ∃ x' y', x = some x' ∧ y = some y' ∧ compOpd x' = some y' := by
  cases x with
  | none => simp [compO] at h; exact .inl ⟨rfl, h.symm⟩
  | some x =>
    simp only [compO, Option.map_eq_some_iff] at h
    obtain ⟨y', h1, h2⟩ := h
    exact .inr ⟨x, y', rfl, h2.symm, h1⟩
theorem compOpds_all2 : ∀ {xs : List Operand} {ys : List Opd}, compOpds xs = some ys → (∀ x ∈ xs, ∀ y, compOpd x = some y → rel φ (ρ y) (a.eval x)) → All2 (rel φ) (vals ρ ys) (xs.map a.eval)
  | [], ys, h, _ => by simp [compOpds] at h; subst h; trivial
  | x :: xs, ys, h, hx => by
    simp only [compOpds] at h
    split at h <;> try cases h
    rename_i y ys' h1 h2
    exact ⟨hx x (by simp) y h1, compOpds_all2 h2 fun x hx' => hx x (by simp [hx'])⟩

theorem Go.a_add (L : Loc) (o n : Nat) : (⟨L.r, L.d + o, none⟩ : Addr).add n = ⟨L.r, L.d + (o + n), none⟩ := by
  unfold Addr.add; split <;> simp_all [Nat.add_assoc]

/-- The value of a cell, of a struct, that a slot holds, out of a list. -/
theorem lget_eq (l : List GV) : ∀ (i : Nat), i < l.length → l[i]? = some (lget i l) := by
  induction l with
  | nil => intro i h; simp at h
  | cons x l ih => intro i h; cases i with
    | zero => rfl
    | succ i => (show l[i]? = some (lget i l)); exact ih i (by simpa using h)

theorem pick_ok {c x y : GV} {v : GV} {vc vx vy : Value} (h : pPick c x y = some v) (hc : rel φ c vc) (hx : rel φ x vx) (hy : rel φ y vy) :
    ∃ t, vc = .bool t ∧ rel φ v (if t then vx else vy) := by
  unfold pPick at h
  obtain ⟨t, rfl, h1⟩ := asBool_some h
  refine ⟨t, hc, ?_⟩
  cases t
  · obtain rfl : y = v := Option.some.inj h1
    exact hy
  · obtain rfl : x = v := Option.some.inj h1
    exact hx

theorem rel_agg {l : List GV} {v : Value} (h : rel φ (.agg l) v) : ∃ cs, v = .agg cs ∧ All2 (relC φ) l cs.toList := h
theorem rel_of_C {g : GV} {v : Value} (h : relC φ g v) : rel φ g v := by
  cases g <;> first | exact h | exact trivial | exact h.elim
theorem rel_of_A {g : GV} {v : Value} (h : relA φ g v) : rel φ g v := by
  cases g <;> first | exact h | exact trivial | exact h.elim

theorem All2.extract {l : List GV} {cs : Array Value} (h : All2 (relC φ) l cs.toList) (o n : Nat) : All2 (relC φ) ((l.drop o).take n) (cs.extract o (o + n)).toList := by
  rw [Array.toList_extract, List.extract_eq_take_drop]
  have := (h.drop o).take n
  simpa [Nat.add_sub_cancel_left] using this

theorem fld_ok {g : Bool} {off n : Nat} {x v : GV} {t : TypeId} {vx : Value} (h : pFld g off n x = some v) (hx : rel φ x vx) (ha : isAggT P t = some g) (hs : szOf P t = some n)
    (hg : g = true ∨ n = 1) : ∃ cs u, vx = .agg cs ∧ (part t cs off).run P w = .ok u w ∧ rel φ v u := by
  unfold pFld at h
  obtain ⟨l, rfl, h1⟩ := asAgg_some h
  obtain ⟨cs, rfl, hl⟩ := rel_agg hx
  obtain ⟨hle, h2⟩ := ifb_some h1
  have hle' : off + n ≤ l.length := by simpa using hle
  refine ⟨cs, ?_⟩
  cases g with
  | true =>
    have h3 : some (GV.agg ((l.drop off).take n)) = some v := by rw [← h2]; simp [ifb]
    obtain rfl := Option.some.inj h3
    refine ⟨.agg (cs.extract off (off + n)), rfl, ?_, ⟨_, rfl, hl.extract off n⟩⟩
    unfold part
    rw [Sem.run_bind, isAggT_some ha]
    simp [Sem.run_bind, szOf_some hs]
  | false =>
    obtain rfl : lget off l = v := Option.some.inj h2
    have hn : n = 1 := by simpa using hg
    have hoff : off < l.length := by omega
    obtain ⟨u, hu, hr⟩ := hl.get off _ (lget_eq l off hoff)
    refine ⟨u, rfl, ?_, rel_of_C hr⟩
    unfold part
    rw [Sem.run_bind, isAggT_some ha]
    have : cs[off]? = some u := by simpa using hu
    simp [this]

theorem run_asIntOf (k : IntKind) (z : Int) : (asIntOf (.int k z)).run P w = .ok (k, z) w := rfl
theorem run_asInt (k : IntKind) (z : Int) : (asInt (.int k z)).run P w = .ok z w := rfl

theorem idxS_ok {sz : Nat} {x i v : GV} {t e : TypeId} {vx vi : Value} (h : pIdxS sz x i = some v) (hx : rel φ x vx) (hi : rel φ i vi) (hu : P.underlying t = some (.slice e)) (hs : szOf P e = some sz) :
    ∃ u, (Instr.indexAt t vx vi).run P w = .ok u w ∧ rel φ v u := by
  cases x <;> simp only [pIdxS] at h <;> try cases h
  rename_i p o len cap e'
  obtain ⟨k, n, rfl, h1⟩ := asNat_some h
  obtain ⟨hlt, h2⟩ := ifb_some h1
  obtain rfl : GV.ptr p (o + n * sz) = v := by simpa using h2
  obtain ⟨L, c, hp, rfl, -⟩ := hx
  obtain rfl := rel_int hi
  have hlt' : n < len := by simpa [Nat.blt_eq] using hlt
  refine ⟨.pointer (some ⟨L.r, L.d + (o + n * sz), none⟩), ?_, L, hp, rfl⟩
  have hb : (0 : Int) ≤ (n : Int) ∧ (n : Int) < (len : Int) := by omega
  simp only [Instr.indexAt, Sem.run_bind, run_asIntOf, Result.andThen_ok, run_underlying hu, Sem.run_pure, Int.ofNat_eq_natCast, hb, and_self, if_true, szOf_some hs, Int.toNat_natCast, Go.a_add]
theorem idxA_ok {len sz : Nat} {x i v : GV} {t e : TypeId} {vx vi : Value} (h : pIdxA len sz x i = some v) (hx : rel φ x vx) (hi : rel φ i vi) (hu : P.underlying t = some (.array len e)) (hs : szOf P e = some sz) :
    ∃ u, (Instr.indexAt t vx vi).run P w = .ok u w ∧ rel φ v u := by
  unfold pIdxA at h
  obtain ⟨p, o, rfl, h0⟩ := asPtr_some h
  obtain ⟨k, n, rfl, h1⟩ := asNat_some (v := i) h0
  obtain ⟨hlt, h2⟩ := ifb_some h1
  obtain rfl : GV.ptr p (o + n * sz) = v := by simpa using h2
  obtain ⟨L, hp, rfl⟩ := hx
  obtain rfl := rel_int hi
  have hlt' : n < len := by simpa [Nat.blt_eq] using hlt
  refine ⟨.pointer (some ⟨L.r, L.d + (o + n * sz), none⟩), ?_, L, hp, rfl⟩
  have hb : (0 : Int) ≤ (n : Int) ∧ (n : Int) < (len : Int) := by omega
  simp only [Instr.indexAt, Sem.run_bind, run_asIntOf, Result.andThen_ok, run_underlying hu, Sem.run_pure, Instr.sureAddr, Int.ofNat_eq_natCast, hb, and_self, if_true, szOf_some hs, Int.toNat_natCast, Go.a_add]

theorem idxG_ok {g : Bool} {len sz : Nat} {x i v : GV} {t e : TypeId} {vx vi : Value} (h : pIdxG g len sz x i = some v) (hx : rel φ x vx) (hi : rel φ i vi) (hu : P.underlying t = some (.array len e))
    (hs : szOf P e = some sz) (ha : isAggT P e = some g) (hg : g = true ∨ sz = 1) : ∃ u, (Instr.index t vx vi).run P w = .ok u w ∧ rel φ v u := by
  unfold pIdxG at h
  obtain ⟨k, n, rfl, h1⟩ := asNat_some h
  obtain ⟨hlt, h2⟩ := ifb_some h1
  obtain ⟨cs, u, rfl, hr, hv⟩ := fld_ok (w := w) h2 hx ha hs hg
  obtain rfl := rel_int hi
  have hlt' : n < len := by simpa [Nat.blt_eq] using hlt
  have hb : (0 : Int) ≤ (n : Int) ∧ (n : Int) < (len : Int) := by omega
  refine ⟨u, ?_, hv⟩
  simp only [Instr.index, Sem.run_bind, run_asIntOf, Result.andThen_ok, run_underlying hu, Int.ofNat_eq_natCast, hb, and_self, if_true, szOf_some hs, Int.toNat_natCast]
  exact hr

theorem packB_get : ∀ (l : List UInt8) (i : Nat) (b : UInt8), l[i]? = some b → packB l / 256 ^ i % 256 = b.toNat
  | [], i, b, h => by simp at h
  | c :: l, 0, b, h => by
    simp at h; subst h
    have := c.toNat_lt
    simp only [packB, Nat.pow_zero, Nat.div_one]
    omega
  | c :: l, i + 1, b, h => by
    have := c.toNat_lt
    rw [← packB_get l i b (by simpa using h)]
    simp only [packB]
    rw [Nat.pow_succ, Nat.mul_comm (256 ^ i) 256, ← Nat.div_div_eq_div_mul]
    have : (c.toNat + 256 * packB l) / 256 = packB l := by omega
    rw [this]
theorem idxStr_ok {x i v : GV} {t : TypeId} {vx vi : Value} (h : pIdxStr x i = some v) (hx : rel φ x vx) (hi : rel φ i vi) (hu : P.underlying t = some .string) :
    ∃ u, (Instr.index t vx vi).run P w = .ok u w ∧ rel φ v u := by
  cases x <;> simp only [pIdxStr] at h <;> try cases h
  rename_i len N
  obtain ⟨k, n, rfl, h1⟩ := asNat_some h
  obtain ⟨hlt, h2⟩ := ifb_some h1
  obtain ⟨s, rfl, hl, hN⟩ := hx
  obtain rfl := rel_int hi
  have hlt' : n < len := by simpa [Nat.blt_eq] using hlt
  have hsz : n < s.size := by rw [← hl] at hlt'; simpa using hlt'
  refine ⟨.int .u8 (s[n].toNat : Int), ?_, ?_⟩
  · simp only [Instr.index, Sem.run_bind, run_asIntOf, Result.andThen_ok, run_underlying hu, Int.ofNat_eq_natCast, Int.toNat_natCast]
    have : s[n]? = some s[n] := by simp [hsz]
    simp [this]
  · rw [force_eq] at h2
    obtain rfl := Option.some.inj h2
    rw [rel_int_iff]
    have h3 := packB_get s.data.toList n s[n] (by
      have : n < s.data.size := by simpa using hsz
      simp only [Array.getElem?_toList, Array.getElem?_eq_getElem this]; rfl)
    rw [hN] at h3
    show Value.int .u8 _ = Value.int .u8 (Int.ofNat (N / 256 ^ n % 256))
    rw [h3]; rfl

theorem fa_ok {off : Nat} {x v : GV} {s : TypeId} {f : Nat} {fs : Array Field} {fd : Field} {vx : Value} (h : pFa off x = some v) (hx : rel φ x vx) (hu : P.underlying s = some (.struct fs)) (hf : fs[f]? = some fd)
    (ho : fd.offset = off) {n : Nat} (hs : szOf P fd.type = some n) (hn : n ≠ 0) : ∃ u, (Instr.fieldAt s vx f).run P w = .ok u w ∧ rel φ v u := by
  unfold pFa at h
  obtain ⟨p, o, rfl, h1⟩ := asPtr_some h
  obtain rfl : GV.ptr p (o + off) = v := by simpa using h1
  obtain ⟨L, hp, rfl⟩ := hx
  refine ⟨.pointer (some ⟨L.r, L.d + (o + off), none⟩), ?_, L, hp, rfl⟩
  simp only [Instr.fieldAt, Sem.run_bind, run_underlying hu, Result.andThen_ok, hf, Instr.sureAddr, Sem.run_pure, fieldPlace, szOf_some hs, hn, if_false, ho, Go.a_add]

/-! Slices. -/
def relOpt (φ : Phi) : Option GV → Option Value → Prop
  | none, none => True
  | some g, some v => rel φ g v
  | _, _ => False
theorem relOpt_of {x : Option Operand} {y : Option Opd} (h : compO x = some y) (hx : ∀ x', x = some x' → ∀ y', compOpd x' = some y' → rel φ (ρ y') (a.eval x')) : relOpt φ (oval ρ y) (x.map a.eval) := by
  rcases compO_some h with ⟨rfl, rfl⟩ | ⟨x', y', rfl, rfl, h'⟩
  · trivial
  · exact hx x' rfl y' h'
theorem oNat_some {β : Type} {v : Option GV} {d : Nat} {f : Nat → Option β} {r : β} {u : Option Value} (h : oNat v d f = some r) (hv : relOpt φ v u) :
    (u = none ∧ v = none ∧ f d = some r) ∨ ∃ k n, u = some (.int k (n : Nat)) ∧ v.isSome = true ∧ f n = some r := by
  cases v with
  | none => cases u with
    | none => exact .inl ⟨rfl, rfl, h⟩
    | some u => exact hv.elim
  | some g => cases u with
    | none => exact hv.elim
    | some u =>
      obtain ⟨k, n, rfl, h1⟩ := asNat_some h
      exact .inr ⟨k, n, by rw [rel_int (φ := φ) hv]; rfl, rfl, h1⟩
theorem run_sliceBound {k : IntKind} {n y : Nat} {c : BoundsCode} (h : n ≤ y) : (Instr.sliceBound (.int k n) y c).run P w = .ok n w := by
  have hb : (0 : Int) ≤ (n : Int) ∧ (n : Int) ≤ (y : Int) := by omega
  simp only [Instr.sliceBound, Sem.run_bind, run_asIntOf, Result.andThen_ok, hb, and_self, if_true, Int.toNat_natCast, Sem.run_pure]
theorem run_sliceBounds {b : Bool} {len cap l h m : Nat} {lo hi mx : Option Value}
    (hm : (mx = none ∧ m = cap) ∨ ∃ k, mx = some (.int k m) ∧ m ≤ cap)
    (hh : (hi = none ∧ mx = none ∧ h = len) ∨ ∃ k, hi = some (.int k h) ∧ h ≤ m)
    (hl : (lo = none ∧ l = 0) ∨ ∃ k, lo = some (.int k l) ∧ l ≤ h) : (Instr.sliceBounds b len cap lo hi mx).run P w = .ok (l, h, m) w := by
  rcases hm with ⟨rfl, rfl⟩ | ⟨k1, rfl, h1⟩ <;> rcases hh with ⟨rfl, h2, rfl⟩ | ⟨k2, rfl, h2⟩ <;> rcases hl with ⟨rfl, rfl⟩ | ⟨k3, rfl, h3⟩ <;> unfold Instr.sliceBounds
  case inl.inl.inl => rfl
  case inl.inl.inr => simp only [Sem.run_bind, Sem.run_pure, Result.andThen_ok, run_sliceBound h3]
  case inl.inr.inl => simp only [Sem.run_bind, Sem.run_pure, Result.andThen_ok, run_sliceBound h2]
  case inl.inr.inr => simp only [Sem.run_bind, Sem.run_pure, Result.andThen_ok, run_sliceBound h2, run_sliceBound h3]
  case inr.inl.inl => exact absurd h2 (by simp)
  case inr.inl.inr => exact absurd h2 (by simp)
  case inr.inr.inl => simp only [Sem.run_bind, Sem.run_pure, Result.andThen_ok, run_sliceBound h1, run_sliceBound h2]
  case inr.inr.inr => simp only [Sem.run_bind, Sem.run_pure, Result.andThen_ok, run_sliceBound h1, run_sliceBound h2, run_sliceBound h3]

theorem slA_ok {n sz : Nat} {lo hi mx : Option GV} {lo' hi' mx' : Option Value} {x v : GV} {vx : Value} {t e : TypeId} (h : pSlA n sz lo hi mx x = some v) (hx : rel φ x vx)
    (h1 : relOpt φ lo lo') (h2 : relOpt φ hi hi') (h3 : relOpt φ mx mx') (hmh : mx.isSome = true → hi.isSome = true) (hu : P.underlying t = some (.array n e)) (hs : szOf P e = some sz) :
    ∃ u, (Instr.sliceAt t vx lo' hi' mx').run P w = .ok u w ∧ rel φ v u := by
  unfold pSlA at h
  obtain ⟨p, o, rfl, e1⟩ := asPtr_some h
  obtain ⟨L, hp, rfl⟩ := hx
  have key : ∃ m hh l, (Instr.sliceBounds false n n lo' hi' mx').run P w = .ok (l, hh, m) w ∧
      v = (if m = l then GV.sl p o 0 0 0 else GV.sl p (o + l * sz) (hh - l) (m - l) 0) ∧ l ≤ hh ∧ hh ≤ m ∧ m ≤ n := by
    rcases oNat_some e1 h3 with ⟨rfl, rfl, e2⟩ | ⟨k, m, rfl, hms, e2⟩ <;> rcases oNat_some e2 h2 with ⟨rfl, rfl, e3⟩ | ⟨k2, hh, rfl, hhs, e3⟩ <;> rcases oNat_some e3 h1 with ⟨rfl, rfl, e4⟩ | ⟨k3, l, rfl, hls, e4⟩
    all_goals first | (have := hmh hms; simp at this; done) | skip
    all_goals
      obtain ⟨a1, e5⟩ := ifb_some e4
      obtain ⟨a2, e6⟩ := ifb_some e5
      obtain ⟨a3, e7⟩ := ifb_some e6
      simp only [force_eq, ifb_eq, Nat.beq_eq, Nat.ble_eq] at a1 a2 a3 e7
      refine ⟨_, _, _, run_sliceBounds ?_ ?_ ?_, ?_, a3, a2, a1⟩
    all_goals first
      | exact .inl ⟨rfl, rfl⟩
      | exact .inl ⟨rfl, rfl, rfl⟩
      | exact .inr ⟨_, rfl, by assumption⟩
      | (split at e7 <;> (obtain rfl := Option.some.inj e7; simp_all))
  obtain ⟨m, hh, l, hr, rfl, hlh, hhm, hmn⟩ := key
  simp only [Instr.sliceAt, Sem.run_bind, run_underlying hu, Result.andThen_ok, Instr.sureAddr, Sem.run_pure, hr, szOf_some hs]
  by_cases hml : m = l
  · have : hh - l = 0 := by omega
    subst hml
    refine ⟨_, rfl, ?_⟩
    simp only [if_true, this, Nat.sub_self]
    exact ⟨L, 0, hp, rfl, Nat.le_refl _, fun _ => rfl, fun h => absurd rfl h⟩
  · refine ⟨_, rfl, ?_⟩
    simp only [hml, if_false, Go.a_add]
    exact ⟨L, m - l, hp, rfl, Nat.le_refl _, fun _ => rfl, fun h => absurd rfl h⟩

theorem slS_ok {sz : Nat} {lo hi mx : Option GV} {lo' hi' mx' : Option Value} {x v : GV} {vx : Value} {t e : TypeId} (h : pSlS sz lo hi mx x = some v) (hx : rel φ x vx)
    (h1 : relOpt φ lo lo') (h2 : relOpt φ hi hi') (h3 : relOpt φ mx mx') (hmh : mx.isSome = true → hi.isSome = true) (hu : P.underlying t = some (.slice e)) (hs : szOf P e = some sz) (hz : sz ≠ 0) :
    ∃ u, (Instr.slice t vx lo' hi' mx').run P w = .ok u w ∧ rel φ v u := by
  cases x <;> simp only [pSlS] at h <;> try cases h
  case nils =>
    obtain rfl : vx = .slice none 0 0 := hx
    have key : (Instr.sliceBounds true 0 0 lo' hi' mx').run P w = .ok (0, 0, 0) w ∧ v = .nils := by
      rcases oNat_some h h1 with ⟨rfl, rfl, e2⟩ | ⟨k, l, rfl, hls, e2⟩ <;> rcases oNat_some e2 h2 with ⟨rfl, rfl, e3⟩ | ⟨k2, hh, rfl, hhs, e3⟩ <;> rcases oNat_some e3 h3 with ⟨rfl, rfl, e4⟩ | ⟨k3, m, rfl, hms, e4⟩
      all_goals first | (have := hmh hms; simp at this; done) | skip
      all_goals
        obtain ⟨a1, e5⟩ := ifb_some e4
        have a2 := Nat.eq_of_beq_eq_true a1
        simp only [Nat.add_eq] at a2
        refine ⟨?_, (Option.some.inj e5).symm⟩
      all_goals first
        | (obtain rfl : m = 0 := by omega)
        | skip
      all_goals first
        | (obtain rfl : hh = 0 := by omega)
        | skip
      all_goals first
        | (obtain rfl : l = 0 := by omega)
        | skip
      all_goals
        refine run_sliceBounds ?_ ?_ ?_
      all_goals first
        | exact .inl ⟨rfl, rfl⟩
        | exact .inl ⟨rfl, rfl, rfl⟩
        | exact .inr ⟨_, rfl, Nat.le_refl _⟩
    obtain ⟨hr, rfl⟩ := key
    refine ⟨.slice none 0 0, ?_, rfl⟩
    simp only [Instr.slice, Sem.run_bind, run_underlying hu, Result.andThen_ok, hr, szOf_some hs, if_true, Nat.sub_self, Sem.run_pure]
  case sle =>
    obtain ⟨a, c, rfl⟩ := hx
    have key : (Instr.sliceBounds true 0 c lo' hi' mx').run P w = .ok (0, 0, c) w ∧ v = .sle := by
      rcases oNat_some h h1 with ⟨rfl, rfl, e2⟩ | ⟨k, l, rfl, hls, e2⟩ <;> rcases oNat_some e2 h2 with ⟨rfl, rfl, e3⟩ | ⟨k2, hh, rfl, hhs, e3⟩
      all_goals
        obtain ⟨a0, e4⟩ := ifb_some e3
        obtain ⟨a1, e5⟩ := ifb_some e4
        have a2 := Nat.eq_of_beq_eq_true a1
        simp only [Nat.add_eq] at a2
        have hmn : mx' = none := by
          cases mx with
          | none => cases mx' with
            | none => rfl
            | some u => exact h3.elim
          | some g => simp at a0
        refine ⟨?_, (Option.some.inj e5).symm⟩
        subst hmn
      all_goals first
        | (obtain rfl : hh = 0 := by omega)
        | skip
      all_goals first
        | (obtain rfl : l = 0 := by omega)
        | skip
      all_goals
        refine run_sliceBounds (.inl ⟨rfl, rfl⟩) ?_ ?_
      all_goals first
        | exact .inl ⟨rfl, rfl⟩
        | exact .inl ⟨rfl, rfl, rfl⟩
        | exact .inr ⟨_, rfl, Nat.zero_le _⟩
    obtain ⟨hr, rfl⟩ := key
    simp only [Instr.slice, Sem.run_bind, run_underlying hu, Result.andThen_ok, hr, szOf_some hs, Nat.sub_self, Sem.run_pure]
    split
    · exact ⟨_, rfl, a, _, rfl⟩
    · exact ⟨_, rfl, _, _, rfl⟩
  case sl p o len cap e' =>
    obtain ⟨L, c, hp, rfl, hcap, he0, he1⟩ := hx
    have key : ∃ m m' hh l, (Instr.sliceBounds true len c lo' hi' mx').run P w = .ok (l, hh, m') w ∧ m ≤ m' ∧ m' ≤ c ∧ l ≤ hh ∧ hh ≤ m ∧
        ((m' = m ∧ v = (if m = l then GV.sl p o 0 0 0 else GV.sl p (o + l * sz) (hh - l) (m - l) 0)) ∨
         (e' = sz ∧ m' = c ∧ v = (if m = l then (if l = 0 then GV.sl p o 0 0 e' else .sle) else GV.sl p (o + l * sz) (hh - l) (m - l) e'))) := by
      rcases oNat_some h h3 with ⟨rfl, rfl, e2⟩ | ⟨k, m, rfl, hms, e2⟩ <;> rcases oNat_some e2 h2 with ⟨rfl, rfl, e3⟩ | ⟨k2, hh, rfl, hhs, e3⟩ <;> rcases oNat_some e3 h1 with ⟨rfl, rfl, e4⟩ | ⟨k3, l, rfl, hls, e4⟩
      all_goals first | (have := hmh hms; simp at this; done) | skip
      all_goals
        obtain ⟨a1, e5⟩ := ifb_some e4
        obtain ⟨a2, e6⟩ := ifb_some e5
        obtain ⟨a3, e7⟩ := ifb_some e6
        simp only [force_eq, ifb_eq, Nat.beq_eq, Nat.ble_eq, Nat.add_eq, Nat.mul_eq, Nat.sub_eq] at a1 a2 a3 e7
      all_goals first
        | (have hm1 : (Option.isSome (none : Option GV) || Nat.beq e' 0) = Nat.beq e' 0 := by simp
           rw [hm1] at e7
           refine ⟨_, c, _, _, run_sliceBounds (.inl ⟨rfl, rfl⟩) ?_ ?_, hcap, Nat.le_refl _, a3, a2, ?_⟩)
        | (have hm1 : (mx.isSome || Nat.beq e' 0) = true := by simp [hms]
           rw [hm1] at e7
           refine ⟨_, _, _, _, run_sliceBounds (.inr ⟨_, rfl, Nat.le_trans a1 hcap⟩) ?_ ?_, Nat.le_refl _, Nat.le_trans a1 hcap, a3, a2, .inl ⟨rfl, ?_⟩⟩)
      all_goals first
        | exact .inl ⟨rfl, rfl⟩
        | exact .inl ⟨rfl, rfl, rfl⟩
        | exact .inr ⟨_, rfl, by omega⟩
        | (simp only [if_true] at e7; split at e7 <;> (obtain rfl := Option.some.inj e7; simp_all))
        | (cases hz0 : Nat.beq e' 0
           · rw [hz0] at e7
             simp only [Bool.false_eq_true, if_false] at e7
             have hez : e' = sz := by
               by_cases hb : e' = sz
               · exact hb
               · rw [if_neg hb] at e7; cases e7
             rw [if_pos hez] at e7
             refine .inr ⟨hez, rfl, ?_⟩
             split at e7
             · split at e7 <;> (obtain rfl := Option.some.inj e7; simp_all)
             · obtain rfl := Option.some.inj e7; simp_all
           · rw [hz0] at e7
             refine .inl ⟨he0 (Nat.eq_of_beq_eq_true hz0), ?_⟩
             simp only [if_true] at e7
             split at e7 <;> (obtain rfl := Option.some.inj e7; simp_all))
    obtain ⟨m, m', hh, l, hr, hmm, hmc, hlh, hhm, hv⟩ := key
    simp only [Instr.slice, Sem.run_bind, run_underlying hu, Result.andThen_ok, hr, szOf_some hs, Sem.run_pure]
    refine ⟨_, rfl, ?_⟩
    rcases hv with ⟨rfl, rfl⟩ | ⟨rfl, rfl, rfl⟩
    · by_cases hml : m' = l
      · have e0 : hh - l = 0 := by omega
        subst hml
        simp only [if_true, e0, Nat.sub_self]
        exact ⟨L, 0, hp, rfl, Nat.le_refl _, fun _ => rfl, fun h => absurd rfl h⟩
      · simp only [hml, if_false, Option.map_some, Go.a_add]
        exact ⟨L, _, hp, rfl, Nat.le_refl _, fun _ => rfl, fun h => absurd rfl h⟩
    · by_cases hml : m = l
      · have e0 : hh - l = 0 := by omega
        subst hml
        simp only [if_true, e0]
        by_cases hl0 : m = 0
        · subst hl0
          simp only [if_true]
          by_cases hc0 : m' = 0
          · subst hc0
            simp only [if_true]
            exact ⟨L, 0, hp, rfl, Nat.le_refl _, fun h => absurd h hz, fun _ => by simpa using he1 hz⟩
          · simp only [hc0, if_false, Option.map_some, Nat.zero_mul, Go.a_add, Nat.add_zero, Nat.sub_zero]
            exact ⟨L, m', hp, rfl, Nat.zero_le _, fun h => absurd h hz, fun _ => he1 hz⟩
        · simp only [hl0, if_false]
          split
          · exact ⟨_, _, rfl⟩
          · exact ⟨_, _, rfl⟩
      · have hml' : ¬ m' = l := by omega
        simp only [hml, hml', if_false, Option.map_some, Go.a_add]
        refine ⟨L, m' - l, hp, rfl, by omega, fun h => absurd h hz, fun _ => ?_⟩
        have := he1 hz
        have e3 : (m' - l) * e' + l * e' = m' * e' := by rw [← Nat.add_mul, Nat.sub_add_cancel (by omega)]
        omega

end

end
end Go.Ev
