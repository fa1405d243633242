/- Comparisons: cells, structs cell by cell, against nil. -/
import Derived.Test.YtbofkbhobcahiaaGreatEvPops2
namespace Go.Ev
noncomputable section
section
variable {P : Program} {φ : Phi} {ρ : Opd → GV} {a : Act} {o : Oper} {w : World}

theorem packB_inj : ∀ (l l' : List UInt8), l.length = l'.length → packB l = packB l' → l = l'
  | [], [], _, _ => rfl
  | [], _ :: _, h, _ => by simp at h
  | _ :: _, [], h, _ => by simp at h
  | b :: l, b' :: l', h, e => by
    simp only [packB] at e
    have h1 := b.toNat_lt
    have h2 := b'.toNat_lt
    have e1 : b.toNat = b'.toNat := by omega
    have e2 : packB l = packB l' := by omega
    rw [UInt8.toNat_inj.1 e1, packB_inj l l' (by simpa using h) e2]
theorem str_eq {l n l' n' : Nat} {s s' : ByteArray} (h : s.data.toList.length = l ∧ packB s.data.toList = n) (h' : s'.data.toList.length = l' ∧ packB s'.data.toList = n') :
    (s.toList == s'.toList) = ifb (Nat.beq l l') (Nat.beq n n') false := by
  rw [ByteArray.toList_eq, ByteArray.toList_eq, ifb_eq, Bool.eq_iff_iff]
  obtain ⟨rfl, rfl⟩ := h
  obtain ⟨rfl, rfl⟩ := h'
  by_cases hl : s.data.toList.length = s'.data.toList.length
  · simp only [Nat.beq_eq_true_eq, hl, if_true, beq_iff_eq, Nat.beq_eq]
    exact ⟨fun e => by rw [e], fun e => packB_inj _ _ hl e⟩
  · have h1 : Nat.beq s.data.toList.length s'.data.toList.length = false := by
      cases hb : Nat.beq s.data.toList.length s'.data.toList.length
      · rfl
      · exact absurd (Nat.eq_of_beq_eq_true hb) hl
    rw [h1]
    simp only [beq_iff_eq, Bool.false_eq_true, if_false, iff_false]
    exact fun e => hl (by rw [e])

/-- The type of a cell of a kind. -/
def KindOf (P : Program) (t : TypeId) : Nat → Prop
  | 0 => P.underlying t = some .bool
  | 1 => ∃ k, P.underlying t = some (.int k)
  | 2 => P.underlying t = some .string
  | _ => False

theorem eqK_ok {k D : Nat} {t : TypeId} {x y : GV} {u v : Value} {b : Bool} (h : eqK k x y = some b) (hk : KindOf P t k) (hx : relC φ x u) (hy : relC φ y v) : (Op.equalIn (D + 1) t u v).run P w = .ok b w := by
  unfold eqK at h
  split at h
  · obtain ⟨h1, h2⟩ := ifb_some h
    obtain ⟨h3, h4⟩ := ifb_some h2
    obtain rfl := Nat.eq_of_beq_eq_true h1
    rw [ikEq_iff] at h3; subst h3
    obtain ⟨kk, hk⟩ := hk
    obtain rfl := hx
    obtain rfl := hy
    rw [run_equalIn_int w D t _ kk _ _ hk, ← Option.some.inj h4, ieq_eq]
  · obtain ⟨h1, h2⟩ := ifb_some h
    obtain rfl := Nat.eq_of_beq_eq_true h1
    obtain rfl := hx
    obtain rfl := hy
    rw [run_equalIn_bool' w D t _ _ hk, ← Option.some.inj h2]
    rename_i p q
    cases p <;> cases q <;> rfl
  · obtain ⟨h1, h2⟩ := ifb_some h
    obtain rfl := Nat.eq_of_beq_eq_true h1
    obtain ⟨s, rfl, hs⟩ := hx
    obtain ⟨s', rfl, hs'⟩ := hy
    rw [run_equalIn_string w D t _ _ hk, ← Option.some.inj h2, str_eq hs hs']
  · cases h

theorem len3_iff : ∀ (ks : List Nat) (a b : List GV), len3 ks a b = true ↔ a.length = ks.length ∧ b.length = ks.length
  | [], [], [] => by simp [len3]
  | [], _ :: _, _ => by simp [len3]
  | [], [], _ :: _ => by simp [len3]
  | _ :: _, [], _ => by simp [len3]
  | _ :: _, _ :: _, [] => by simp [len3]
  | _ :: ks, _ :: a, _ :: b => by simp [len3, len3_iff ks a b]
theorem eqL_len : ∀ {ks : List Nat} {l l' : List GV} {b : Bool}, eqL ks l l' = some b → l.length = ks.length ∧ l'.length = ks.length
  | [], [], [], b, _ => ⟨rfl, rfl⟩
  | [], _ :: _, _, b, h => by cases h
  | [], [], _ :: _, b, h => by cases h
  | _ :: _, [], _, b, h => by cases h
  | _ :: _, _ :: _, [], b, h => by cases h
  | k :: ks, x :: l, y :: l', b, h => by
    simp only [eqL] at h
    obtain ⟨t, h1, h2⟩ := obind_some h
    cases t with
    | true => have := eqL_len (show eqL ks l l' = some b from h2); simp [this.1, this.2]
    | false =>
      obtain ⟨h3, -⟩ := ifb_some (show ifb (len3 ks l l') (some false) none = some b from h2)
      rw [len3_iff] at h3
      simp [h3.1, h3.2]
theorem eqL_append : ∀ {ks1 ks2 : List Nat} {a1 a2 b1 b2 : List GV} {b : Bool}, a1.length = ks1.length → b1.length = ks1.length → eqL (ks1 ++ ks2) (a1 ++ a2) (b1 ++ b2) = some b →
    ∃ b', eqL ks1 a1 b1 = some b' ∧ (b' = true → eqL ks2 a2 b2 = some b) ∧ (b' = false → b = false)
  | [], ks2, [], a2, [], b2, b, _, _, h => ⟨true, rfl, fun _ => h, fun e => by cases e⟩
  | k :: ks1, ks2, x :: a1, a2, y :: b1, b2, b, h1, h2, h => by
    simp only [List.cons_append, eqL] at h
    obtain ⟨t, ht, h3⟩ := obind_some h
    cases t with
    | true =>
      obtain ⟨b', e1, e2, e3⟩ := eqL_append (by simpa using h1) (by simpa using h2) (show eqL (ks1 ++ ks2) (a1 ++ a2) (b1 ++ b2) = some b from h3)
      exact ⟨b', by simp only [eqL, ht]; exact e1, e2, e3⟩
    | false =>
      obtain ⟨-, h4⟩ := ifb_some (show ifb (len3 (ks1 ++ ks2) (a1 ++ a2) (b1 ++ b2)) (some false) none = some b from h3)
      have h5 : len3 ks1 a1 b1 = true := by rw [len3_iff]; exact ⟨by simpa using h1, by simpa using h2⟩
      exact ⟨false, by simp only [eqL, ht]; show ifb (len3 ks1 a1 b1) (some false) none = _; rw [h5]; rfl, fun e => (by cases e), fun _ => (Option.some.inj h4).symm⟩

/-- Comparing two values of type t, each a piece of a row, is comparing their cells. -/
def EqOK (P : Program) (w : World) (φ : Phi) (d : Nat) (t : TypeId) (ks : List Nat) : Prop :=
  ∀ (D : Nat) (l l' : List GV) (xs ys : Array Value) (off : Nat) (b : Bool), d ≤ D → All2 (relC φ) l xs.toList → All2 (relC φ) l' ys.toList → off + ks.length ≤ l.length → off + ks.length ≤ l'.length →
    eqL ks ((l.drop off).take ks.length) ((l'.drop off).take ks.length) = some b → szOf P t = some ks.length →
    ∃ X Y, (part t xs off).run P w = .ok X w ∧ (part t ys off).run P w = .ok Y w ∧ (Op.equalIn D t X Y).run P w = .ok b w

theorem take_add (l : List GV) (o m n : Nat) : (l.drop o).take (m + n) = (l.drop o).take m ++ (l.drop (o + m)).take n := by
  rw [List.take_add, List.drop_drop]
theorem seg_len (l : List GV) (o n : Nat) (h : o + n ≤ l.length) : ((l.drop o).take n).length = n := by simp; omega

theorem part_cell {t : TypeId} {xs : Array Value} {off : Nat} {v : Value} (ha : isAggT P t = some false) (h : xs[off]? = some v) : (part t xs off).run P w = .ok v w := by
  unfold part
  rw [Sem.run_bind, isAggT_some ha]
  simp [h]
theorem part_agg {t : TypeId} {xs : Array Value} {off n : Nat} (ha : isAggT P t = some true) (hs : szOf P t = some n) : (part t xs off).run P w = .ok (.agg (xs.extract off (off + n))) w := by
  unfold part
  rw [Sem.run_bind, isAggT_some ha]
  simp [Sem.run_bind, szOf_some hs]

theorem leaf_ok {d k : Nat} {t : TypeId} (hk : KindOf P t k) (ha : isAggT P t = some false) : EqOK P w φ (d + 1) t [k] := by
  intro D l l' xs ys off b hD hl hl' ho ho' he _
  obtain ⟨D, rfl⟩ : ∃ D', D = D' + 1 := ⟨D - 1, by omega⟩
  simp only [List.length_cons, List.length_nil, Nat.zero_add] at ho ho' he
  have e1 : (l.drop off).take 1 = [lget off l] := by
    have := lget_eq l off (by omega)
    rw [List.getElem?_eq_getElem (by omega)] at this
    rw [List.drop_eq_getElem_cons (by omega), Option.some.inj this]; rfl
  have e2 : (l'.drop off).take 1 = [lget off l'] := by
    have := lget_eq l' off (by omega)
    rw [List.getElem?_eq_getElem (by omega)] at this
    rw [List.drop_eq_getElem_cons (by omega), Option.some.inj this]; rfl
  rw [e1, e2] at he
  simp only [eqL] at he
  obtain ⟨t', h1, h2⟩ := obind_some he
  have hb : t' = b := by cases t' <;> exact Option.some.inj h2
  subst hb
  obtain ⟨u, hu, hru⟩ := hl.get off _ (lget_eq l off (by omega))
  obtain ⟨v, hv, hrv⟩ := hl'.get off _ (lget_eq l' off (by omega))
  exact ⟨u, v, part_cell ha (by simpa using hu), part_cell ha (by simpa using hv), eqK_ok h1 hk hru hrv⟩

theorem fields_ok {d D : Nat} (ih : ∀ t ks, flat P d t = some ks → EqOK P w φ d t ks) (hD : d ≤ D) {l l' : List GV} {xs ys : Array Value} (hl : All2 (relC φ) l xs.toList) (hl' : All2 (relC φ) l' ys.toList) :
    ∀ (fs : List Field) (off : Nat) (ks : List Nat) (b : Bool), flatF P (flat P d) off fs = some ks → off + ks.length ≤ l.length → off + ks.length ≤ l'.length →
      eqL ks ((l.drop off).take ks.length) ((l'.drop off).take ks.length) = some b → (Op.eqFields D xs ys fs).run P w = .ok b w
  | [], off, ks, b, h, _, _, he => by
    simp [flatF] at h; subst h
    simp [eqL] at he; subst he
    simp [Op.eqFields]
  | f :: fs, off, ks, b, h, h1, h2, he => by
    simp only [flatF] at h
    split at h <;> try cases h
    rename_i hc
    split at h <;> try cases h
    rename_i ks1 hk1
    split at h <;> try cases h
    rename_i hsz
    simp only [Option.map_eq_some_iff] at h
    obtain ⟨ks2, hk2, rfl⟩ := h
    simp only [Bool.and_eq_true, bne_iff_ne, ne_eq, beq_iff_eq] at hc
    obtain ⟨hname, hoff⟩ := hc
    simp only [List.length_append] at h1 h2 he
    rw [take_add, take_add] at he
    obtain ⟨b', e1, e2, e3⟩ := eqL_append (seg_len _ _ _ (by omega)) (seg_len _ _ _ (by omega)) he
    obtain ⟨X, Y, p1, p2, p3⟩ := ih f.type ks1 hk1 D l l' xs ys off b' hD hl hl' (by omega) (by omega) e1 hsz
    simp only [Op.eqFields, hname, ne_eq, not_false_eq_true, if_true, Sem.run_bind, hoff, p1, p2, p3, Result.andThen_ok]
    cases b' with
    | false => rw [e3 rfl]; rfl
    | true =>
      simp only [Bool.not_true, Bool.false_eq_true, if_false]
      exact fields_ok ih hD hl hl' fs (off + ks1.length) ks2 b hk2 (by omega) (by omega) (e2 rfl)

theorem items_ok {d D : Nat} {e : TypeId} {ks : List Nat} (ih : EqOK P w φ d e ks) (hsz : szOf P e = some ks.length) (hD : d ≤ D) {l l' : List GV} {xs ys : Array Value} (hl : All2 (relC φ) l xs.toList) (hl' : All2 (relC φ) l' ys.toList) :
    ∀ (n i : Nat) (b : Bool), i * ks.length + (repN ks n).length ≤ l.length → i * ks.length + (repN ks n).length ≤ l'.length →
      eqL (repN ks n) ((l.drop (i * ks.length)).take (repN ks n).length) ((l'.drop (i * ks.length)).take (repN ks n).length) = some b → (Op.eqItems D e ks.length xs ys (List.range' i n)).run P w = .ok b w
  | 0, i, b, _, _, he => by
    simp [repN, eqL] at he; subst he
    simp [Op.eqItems]
  | n + 1, i, b, h1, h2, he => by
    simp only [repN, List.length_append] at h1 h2 he
    rw [take_add, take_add] at he
    obtain ⟨b', e1, e2, e3⟩ := eqL_append (seg_len _ _ _ (by omega)) (seg_len _ _ _ (by omega)) he
    obtain ⟨X, Y, p1, p2, p3⟩ := ih D l l' xs ys (i * ks.length) b' hD hl hl' (by omega) (by omega) e1 hsz
    simp only [List.range'_succ, Op.eqItems, Sem.run_bind, p1, p2, p3, Result.andThen_ok]
    cases b' with
    | false => rw [e3 rfl]; rfl
    | true =>
      simp only [Bool.not_true, Bool.false_eq_true, if_false]
      have e4 : (i + 1) * ks.length = i * ks.length + ks.length := by rw [Nat.add_mul]; simp
      exact items_ok ih hsz hD hl hl' n (i + 1) b (by omega) (by omega) (by rw [e4]; exact e2 rfl)

theorem flat_ok : ∀ (d : Nat) (t : TypeId) (ks : List Nat), flat P d t = some ks → EqOK P w φ d t ks
  | 0, t, ks, h => by simp [flat] at h
  | d + 1, t, ks, h => by
    simp only [flat] at h
    split at h
    · rename_i hu; obtain rfl := Option.some.inj h; exact leaf_ok hu (by simp [isAggT, hu])
    · rename_i k hu; obtain rfl := Option.some.inj h; exact leaf_ok ⟨k, hu⟩ (by simp [isAggT, hu])
    · rename_i hu; obtain rfl := Option.some.inj h; exact leaf_ok hu (by simp [isAggT, hu])
    · rename_i fs hu
      split at h <;> try cases h
      rename_i hst
      have ha : isAggT P t = some true := by simp [isAggT, hu]
      intro D l l' xs ys off b hD hl hl' h1 h2 he hsz
      obtain ⟨D, rfl⟩ : ∃ D', D = D' + 1 := ⟨D - 1, by omega⟩
      refine ⟨_, _, part_agg ha hsz, part_agg ha hsz, ?_⟩
      have hf : P.fieldsOf t = fs := by simp [Program.fieldsOf, hu]
      rw [run_equalIn_struct w D t _ _ (by rw [hf]; exact hu) (by simpa using hst), hf]
      exact fields_ok (fun t ks => flat_ok d t ks) (by omega) (hl.extract off ks.length) (hl'.extract off ks.length) fs.toList 0 ks b h (by rw [seg_len _ _ _ h1]; omega) (by rw [seg_len _ _ _ h2]; omega)
        (by simpa [List.take_take] using he)
    · rename_i n e hu
      split at h <;> try cases h
      rename_i ks0 hk0
      split at h <;> try cases h
      rename_i hsz0
      have ha : isAggT P t = some true := by simp [isAggT, hu]
      intro D l l' xs ys off b hD hl hl' h1 h2 he hsz
      obtain ⟨D, rfl⟩ : ∃ D', D = D' + 1 := ⟨D - 1, by omega⟩
      refine ⟨_, _, part_agg ha hsz, part_agg ha hsz, ?_⟩
      have hsz0' := hsz0
      unfold szOf at hsz0'
      cases hie : P.info? e with
      | none => simp [hie] at hsz0'
      | some ie =>
        simp only [hie, Option.map_some, Option.some.injEq] at hsz0'
        rw [run_equalIn_array w D _ _ hu hie, show P.cellsOf e = ks0.length by simp [Program.cellsOf, hie, hsz0'], List.range_eq_range']
        exact items_ok (flat_ok d e ks0 hk0) hsz0 (by omega) (hl.extract off _) (hl'.extract off _) n 0 b (by rw [seg_len _ _ _ h1]; omega) (by rw [seg_len _ _ _ h2]; omega) (by simpa [List.take_take] using he)
    · cases h

/-! The operations. -/
theorem mkB_rel {t : Bool} {v : GV} (h : mkB t = some v) : rel φ v (.bool t) := by rw [mkB_some h]; rfl

theorem eqI_ok {x y v : GV} {u u' : Value} {op : BinOp} {t : TypeId} (hop : op = .eql ∨ op = .neq) (h : pBin op x y = some v) (hx : rel φ x u) (hy : rel φ y u') :
    ∃ r, (Go.binOp op t u u').run P w = .ok r w ∧ rel φ v r := by
  have key : ∃ b, eqI x y = some b ∧ mkB (if op = .eql then b else !b) = some v := by
    rcases hop with rfl | rfl
    · obtain ⟨b, h1, h2⟩ := obind_some h; exact ⟨b, h1, h2⟩
    · obtain ⟨b, h1, h2⟩ := obind_some h; exact ⟨b, h1, by simpa using h2⟩
  obtain ⟨b, h1, h2⟩ := key
  refine ⟨.bool (if op = .eql then b else !b), ?_, mkB_rel h2⟩
  unfold eqI at h1
  split at h1
  · obtain ⟨h3, h4⟩ := ifb_some h1
    rw [ikEq_iff] at h3; subst h3
    obtain rfl := rel_int hx
    obtain rfl := rel_int hy
    rw [ieq_eq] at h4
    obtain rfl := Option.some.inj h4
    rcases hop with rfl | rfl <;> simp [Go.binOp, Op.intCmp, bne]
  · obtain ⟨s, rfl, hs⟩ := hx
    obtain ⟨s', rfl, hs'⟩ := hy
    rw [← str_eq hs hs'] at h1
    obtain rfl := Option.some.inj h1
    rcases hop with rfl | rfl <;> simp [Go.binOp, Op.stringOp]
  · cases h1

theorem run_equal (t : TypeId) (u v : Value) : (Op.equal t u v).run P w = (Op.equalIn 10000 t u v).run P w := rfl

theorem eqB_ok {x y : GV} {u u' : Value} {t : TypeId} {b : Bool} (h : eqB x y = some b) (hx : rel φ x u) (hy : rel φ y u') (hu : P.underlying t = some .bool) :
    (Go.binOp .eql t u u').run P w = .ok (.bool b) w ∧ (Go.binOp .neq t u u').run P w = .ok (.bool (!b)) w ∧ (∀ op X Y, (eqGuard op t X Y u u').run P w = .ok () w) := by
  unfold eqB at h
  split at h
  · obtain rfl := rel_bool hx
    obtain rfl := rel_bool hy
    rename_i p q
    have hb : b = (p == q) := by rw [← Option.some.inj h]; cases p <;> cases q <;> rfl
    subst hb
    refine ⟨?_, ?_, ?_⟩
    · simp [Go.binOp, Sem.run_bind, run_equal, run_equalIn_bool' w 9999 t p q hu]
    · simp [Go.binOp, Sem.run_bind, run_equal, run_equalIn_bool' w 9999 t p q hu]
    · intro op X Y; cases op <;> simp [eqGuard]
  · cases h

theorem guard_int {k k' : IntKind} {x y : Int} (op : BinOp) (t : TypeId) (X Y : Operand) : (eqGuard op t X Y (.int k x) (.int k' y)).run P w = .ok () w := by cases op <;> simp [eqGuard]

theorem guard_plain {u v : Value} (op : BinOp) (t : TypeId) (X Y : Operand) (h1 : u ≠ .nilIface) (h2 : ∀ cs, u ≠ .agg cs) : (eqGuard op t X Y u v).run P w = .ok () w := by
  unfold eqGuard
  cases op <;> try (simp; done)
  all_goals
    cases u <;> first
      | exact absurd rfl h1
      | exact absurd rfl (h2 _)
      | simp
theorem eqN_ok {c : Nat} {x y : GV} {u u' : Value} {t : TypeId} {b : Bool} (h : eqN c x y = some b) (hx : rel φ x u) (hy : rel φ y u')
    (hu : (c = 0 ∧ ∃ e, P.underlying t = some (.pointer e)) ∨ (c = 1 ∧ ∃ e, P.underlying t = some (.slice e)) ∨ (c = 2 ∧ ∃ p r v, P.underlying t = some (.func p r v))) :
    (∀ D, (Op.equalIn (D + 1) t u u').run P w = .ok b w) ∧ (∀ op X Y, (eqGuard op t X Y u u').run P w = .ok () w) ∧
      (Go.binOp .eql t u u').run P w = ((Op.equalIn 10000 t u u').run P w).andThen (fun b w' => .ok (.bool b) w') ∧
      (Go.binOp .neq t u u').run P w = ((Op.equalIn 10000 t u u').run P w).andThen (fun b w' => .ok (.bool (!b)) w') := by
  rcases hu with ⟨rfl, e, hu⟩ | ⟨rfl, e, hu⟩ | ⟨rfl, p, r, v, hu⟩
  all_goals
    unfold eqN at h
    split at h <;> first
      | (cases h; done)
      | skip
  all_goals
    obtain rfl := Option.some.inj h
    simp only [rel, relA, relC] at hx hy
  all_goals
    first
      | (obtain rfl := hx; obtain rfl := hy)
      | (obtain ⟨L, -, rfl⟩ := hx; obtain rfl := hy)
      | (obtain rfl := hx; obtain ⟨L, -, rfl⟩ := hy)
      | (obtain ⟨g, c, rfl, -, -⟩ := hx; obtain rfl := hy)
      | (obtain rfl := hx; obtain ⟨g, c, rfl, -, -⟩ := hy)
      | (obtain ⟨L, c, -, rfl, -⟩ := hx; obtain rfl := hy)
      | (obtain rfl := hx; obtain ⟨L, c, -, rfl, -⟩ := hy)
      | (obtain ⟨L, c, rfl⟩ := hx; obtain rfl := hy)
      | (obtain rfl := hx; obtain ⟨L, c, rfl⟩ := hy)
    refine ⟨?_, fun op X Y => guard_plain op t X Y (by simp) (by simp), ?_, ?_⟩
    · intro D; simp [Op.equalIn, Sem.run_bind, run_underlying hu]
    · simp only [Go.binOp, Sem.run_bind, run_equal]; rfl
    · simp only [Go.binOp, Sem.run_bind, run_equal]; rfl

/-- Two structs, cell by cell. -/
theorem eqA_ok {ks : List Nat} {l l' : List GV} {cs cs' : Array Value} {t : TypeId} {b : Bool} (hks : flat P 100 t = some ks) (ha : isAggT P t = some true) (hn : szOf P t = some ks.length) (h : eqL ks l l' = some b)
    (hl : All2 (relC φ) l cs.toList) (hl' : All2 (relC φ) l' cs'.toList) : (Op.equalIn 10000 t (.agg cs) (.agg cs')).run P w = .ok b w := by
  have hlen := eqL_len h
  have hsz : szOf P t = some ks.length := hn
  have e1 := hl.length
  have e2 := hl'.length
  obtain ⟨X, Y, p1, p2, p3⟩ := flat_ok (w := w) 100 t ks hks 10000 l l' cs cs' 0 b (by omega) hl hl' (by omega) (by omega) (by
    rw [List.drop_zero, List.drop_zero, List.take_of_length_le (by omega), List.take_of_length_le (by omega)]; exact h) hsz
  rw [part_agg ha hsz] at p1 p2
  have f1 : cs.extract 0 (0 + ks.length) = cs := by rw [Nat.zero_add]; apply Array.extract_eq_self_of_le; rw [← Array.length_toList]; omega
  have f2 : cs'.extract 0 (0 + ks.length) = cs' := by rw [Nat.zero_add]; apply Array.extract_eq_self_of_le; rw [← Array.length_toList]; omega
  rw [f1] at p1
  rw [f2] at p2
  obtain rfl : Value.agg cs = X := by injection p1
  obtain rfl : Value.agg cs' = Y := by injection p2
  exact p3

end
end
end Go.Ev
