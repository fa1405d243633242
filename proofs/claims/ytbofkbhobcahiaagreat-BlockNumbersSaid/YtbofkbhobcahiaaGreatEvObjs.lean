/- Packed numbers, blocks: what getting, setting, cutting, joining them does to their cells. -/
import Derived.Test.YtbofkbhobcahiaaGreatEvRel
namespace Go.Ev
noncomputable section

theorem tb_pget (w n i j : Nat) : (pget w n i).testBit j = (decide (j < w) && n.testBit (w * i + j)) := by
  show ((n >>> (w * i)) % 2 ^ w).testBit j = _
  rw [Nat.testBit_mod_two_pow, Nat.testBit_shiftRight]
theorem tb_psub (w n o len j : Nat) : (psub w n o len).testBit j = (decide (j < w * len) && n.testBit (w * o + j)) := by
  show ((n >>> (w * o)) % 2 ^ (w * len)).testBit j = _
  rw [Nat.testBit_mod_two_pow, Nat.testBit_shiftRight]
theorem idx_lt {w i j n : Nat} (hj : j < w) (hi : i < n) : w * i + j < w * n := by
  have : w * (i + 1) ≤ w * n := Nat.mul_le_mul_left w hi
  rw [Nat.mul_add] at this; omega
theorem idx_le {w i j n : Nat} (hj : j < w) (h : n ≤ i) : w * n ≤ w * i + j := by
  have : w * n ≤ w * i := Nat.mul_le_mul_left w h
  omega
theorem pget_psub {w n o len i : Nat} (h : i < len) : pget w (psub w n o len) i = pget w n (o + i) := by
  apply Nat.eq_of_testBit_eq; intro j
  rw [tb_pget, tb_pget, tb_psub]
  by_cases hj : j < w
  · simp only [hj, idx_lt hj h, decide_true, Bool.true_and, Nat.mul_add, Nat.add_assoc]
  · simp [hj]
theorem tb_pset (w n i v b : Nat) : (pset w n i v).testBit b = (n.testBit b ^^ (decide (w * i ≤ b) && ((pget w n i).testBit (b - w * i) ^^ v.testBit (b - w * i)))) := by
  show (n ^^^ ((pget w n i ^^^ v) <<< (w * i))).testBit b = _
  rw [Nat.testBit_xor, Nat.testBit_shiftLeft, Nat.testBit_xor]
theorem pget_pset_same {w n i v : Nat} (h : v < 2 ^ w) : pget w (pset w n i v) i = v := by
  apply Nat.eq_of_testBit_eq; intro j
  rw [tb_pget, tb_pset, tb_pget]
  by_cases hj : j < w
  · have e : w * i + j - w * i = j := by omega
    have e2 : w * i ≤ w * i + j := by omega
    simp [hj, e, e2]
  · simp only [hj, decide_false, Bool.false_and]
    rw [Nat.testBit_lt_two_pow (Nat.lt_of_lt_of_le h (Nat.pow_le_pow_right (by omega) (by omega)))]
theorem pget_pset_ne {w n i v i' : Nat} (h : v < 2 ^ w) (hne : i' ≠ i) : pget w (pset w n i v) i' = pget w n i' := by
  apply Nat.eq_of_testBit_eq; intro j
  rw [tb_pget, tb_pget, tb_pset, tb_pget]
  by_cases hj : j < w
  · by_cases hle : w * i ≤ w * i' + j
    · have hge : w ≤ w * i' + j - w * i := by
        have : i < i' := by
          rcases Nat.lt_trichotomy i i' with h1 | h1 | h1
          · exact h1
          · exact absurd h1.symm hne
          · have := idx_lt (w := w) hj h1; omega
        have h2 : w * (i + 1) ≤ w * i' := Nat.mul_le_mul_left w this
        rw [Nat.mul_add] at h2; omega
      rw [Nat.testBit_lt_two_pow (Nat.lt_of_lt_of_le h (Nat.pow_le_pow_right (by omega) hge))]
      simp [hj, show ¬ w * i' + j - w * i < w by omega]
    · simp [hj, hle]
  · simp [hj]
theorem tb_pcat (w n len m b : Nat) : (pcat w n len m).testBit b = ((decide (b < w * len) && n.testBit b) || (decide (w * len ≤ b) && m.testBit (b - w * len))) := by
  show ((n % 2 ^ (w * len)) ||| (m <<< (w * len))).testBit b = _
  rw [Nat.testBit_or, Nat.testBit_mod_two_pow, Nat.testBit_shiftLeft]
theorem pget_pcat_l {w n len m i : Nat} (h : i < len) : pget w (pcat w n len m) i = pget w n i := by
  apply Nat.eq_of_testBit_eq; intro j
  rw [tb_pget, tb_pget, tb_pcat]
  by_cases hj : j < w
  · have := idx_lt hj h
    simp [hj, this, show ¬ w * len ≤ w * i + j by omega]
  · simp [hj]
theorem pget_pcat_r {w n len m i : Nat} : pget w (pcat w n len m) (len + i) = pget w m i := by
  apply Nat.eq_of_testBit_eq; intro j
  rw [tb_pget, tb_pget, tb_pcat]
  by_cases hj : j < w
  · have e : w * (len + i) + j = w * len + (w * i + j) := by rw [Nat.mul_add]; omega
    rw [e]
    have : ¬ (w * len + (w * i + j) < w * len) := by omega
    simp [hj, this]
  · simp [hj]
theorem tb_pspl (w n o len m b : Nat) : (pspl w n o len m).testBit b = (n.testBit b ^^ (decide (w * o ≤ b) && ((decide (b - w * o < w * len) && n.testBit (w * o + (b - w * o))) ^^ (decide (b - w * o < w * len) && m.testBit (b - w * o))))) := by
  show (n ^^^ ((psub w n o len ^^^ (m % 2 ^ (w * len))) <<< (w * o))).testBit b = _
  rw [Nat.testBit_xor, Nat.testBit_shiftLeft, Nat.testBit_xor, tb_psub, Nat.testBit_mod_two_pow]
theorem pget_pspl_in {w n o len m i : Nat} (h : i < len) : pget w (pspl w n o len m) (o + i) = pget w m i := by
  apply Nat.eq_of_testBit_eq; intro j
  rw [tb_pget, tb_pget, tb_pspl]
  by_cases hj : j < w
  · have e : w * (o + i) + j = w * o + (w * i + j) := by rw [Nat.mul_add]; omega
    rw [e]
    simp [hj, idx_lt hj h]
  · simp [hj]
theorem pget_pspl_out {w n o len m i : Nat} (h : i < o ∨ o + len ≤ i) : pget w (pspl w n o len m) i = pget w n i := by
  apply Nat.eq_of_testBit_eq; intro j
  rw [tb_pget, tb_pget, tb_pspl]
  by_cases hj : j < w
  · rcases h with h | h
    · have := idx_lt (w := w) hj h
      simp [hj, show ¬ w * o ≤ w * i + j by omega]
    · have := idx_le (w := w) hj h
      rw [Nat.mul_add] at this
      simp [hj, show ¬ w * i + j - w * o < w * len by omega]
  · simp [hj]

/-! Packed rows as lists. -/
theorem unpack_len (k : IntKind) (w n : Nat) : ∀ (len i : Nat), (unpack k w n i len).length = len
  | 0, i => rfl
  | len + 1, i => by simp [unpack, unpack_len k w n len]
theorem unpack_get (k : IntKind) (w n : Nat) : ∀ (len i j : Nat), j < len → (unpack k w n i len)[j]? = some (.int k (.ofNat (pget w n (i + j))))
  | 0, i, j, h => by omega
  | len + 1, i, 0, _ => by simp [unpack]
  | len + 1, i, j + 1, h => by
    simp only [unpack, List.getElem?_cons_succ]
    rw [unpack_get k w n len (i + 1) j (by omega), show i + 1 + j = i + (j + 1) by omega]
theorem unpack_eq {k : IntKind} {w n len : Nat} {l : List GV} (hl : l.length = len) (h : ∀ j, j < len → l[j]? = some (.int k (.ofNat (pget w n j)))) : unpack k w n 0 len = l := by
  apply List.ext_getElem?
  intro j
  by_cases hj : j < len
  · rw [unpack_get _ _ _ _ _ _ hj, h j hj]; simp
  · rw [List.getElem?_eq_none (by rw [unpack_len]; omega), List.getElem?_eq_none (by omega)]

theorem objGet_row {i : Nat} {b : GObj} {g : GV} (h : objGet i b = some g) : ∃ l sz ro, b.row = some (l, sz, ro) ∧ l[i]? = some g := by
  unfold objGet at h
  split at h
  · obtain ⟨h1, h2⟩ := ifb_some h
    rename_i l sz ro
    have hi : i < l.length := by simpa [Nat.blt_eq] using h1
    refine ⟨l, sz, ro, rfl, ?_⟩
    rw [← Option.some.inj h2]
    clear h h1 h2
    induction l generalizing i with
    | nil => simp at hi
    | cons x l ih => cases i with
      | zero => rfl
      | succ i => exact ih (by simpa using hi)
  · obtain ⟨h1, h2⟩ := ifb_some h
    rw [force_eq] at h2
    refine ⟨_, _, _, rfl, ?_⟩
    rw [unpack_get _ _ _ _ _ _ (by simpa [Nat.blt_eq] using h1), ← Option.some.inj h2]
    simp
  · cases h

theorem objSub_row {o n : Nat} {b : GObj} {c : Cs} (h : objSub o n b = some c) : ∃ l sz ro, b.row = some (l, sz, ro) ∧ o + n ≤ l.length ∧ csList c = (l.drop o).take n := by
  unfold objSub at h
  split at h
  · obtain ⟨h1, h2⟩ := ifb_some h
    rw [forceL_eq] at h2
    exact ⟨_, _, _, rfl, by simpa using h1, by rw [← Option.some.inj h2]; rfl⟩
  · obtain ⟨h1, h2⟩ := ifb_some h
    rw [force_eq] at h2
    rename_i k w len m ro
    have hle : o + n ≤ len := by simpa using h1
    refine ⟨_, _, _, rfl, by rw [unpack_len]; exact hle, ?_⟩
    rw [← Option.some.inj h2]
    refine unpack_eq (by rw [List.length_take, List.length_drop, unpack_len]; omega) fun j hj => ?_
    rw [List.getElem?_take, if_pos hj, List.getElem?_drop, unpack_get _ _ _ _ _ _ (by omega), pget_psub hj]
    simp
  · cases h

theorem lset_some : ∀ (l : List GV) (i : Nat) (v : GV) (f : List GV → Option GObj) (r : GObj), lset i v l f = some r → i < l.length ∧ f (l.set i v) = some r
  | [], i, v, f, r, h => by cases h
  | x :: l, 0, v, f, r, h => ⟨by simp, h⟩
  | x :: l, i + 1, v, f, r, h => by
    obtain ⟨h1, h2⟩ := lset_some l i v (fun l => f (x :: l)) r h
    exact ⟨by simpa using h1, h2⟩

theorem objSet_row {i : Nat} {v : GV} {b b' : GObj} (h : objSet i v b = some b') : ∃ l sz, b.row = some (l, sz, false) ∧ i < l.length ∧ v.cell = true ∧ b'.row = some (l.set i v, sz, false) := by
  unfold objSet at h
  split at h
  · rename_i l sz ro
    cases ro with
    | true => cases h
    | false =>
      obtain ⟨h1, h2⟩ := ifb_some (show ifb v.cell (lset i v l fun l => some (.cells l sz false)) none = some b' from h)
      obtain ⟨h3, h4⟩ := lset_some _ _ _ _ _ h2
      exact ⟨l, sz, rfl, h3, h1, by rw [← Option.some.inj h4]; rfl⟩
  · rename_i k w len n ro
    cases ro with
    | true => cases h
    | false =>
      obtain ⟨h1, h2⟩ := ifb_some (show ifb (Nat.blt i len) _ none = some b' from h)
      have hi : i < len := by simpa [Nat.blt_eq] using h1
      cases v <;> try cases h2
      rename_i k' z
      obtain ⟨h3, h4⟩ := ifb_some (show ifb (ikEq k k') _ none = some b' from h2)
      rw [ikEq_iff] at h3; subst h3
      cases z with
      | negSucc z => cases h4
      | ofNat z =>
        obtain ⟨h5, h6⟩ := ifb_some (show ifb (Nat.blt z (Nat.pow 2 w)) _ none = some b' from h4)
        rw [force_eq] at h6
        have hz : z < 2 ^ w := by simpa [Nat.blt_eq] using h5
        refine ⟨_, _, rfl, by rw [unpack_len]; exact hi, rfl, ?_⟩
        rw [← Option.some.inj h6]
        show some (_, _, _) = some (_, _, _)
        rw [unpack_eq (l := (unpack k w n 0 len).set i (.int k (.ofNat z))) (by simp [unpack_len]) fun j hj => ?_]
        by_cases hij : i = j
        · subst hij
          rw [List.getElem?_set_self (by rw [unpack_len]; exact hj), pget_pset_same hz]
        · rw [List.getElem?_set_ne hij, unpack_get _ _ _ _ _ _ hj, Nat.zero_add, pget_pset_ne hz (Ne.symm hij)]
  · cases h

theorem pget_lor0 {w z m : Nat} (h : z < 2 ^ w) : pget w (Nat.lor z (Nat.shiftLeft m w)) 0 = z := by
  apply Nat.eq_of_testBit_eq; intro j
  rw [tb_pget]
  show (decide (j < w) && (z ||| m <<< w).testBit (w * 0 + j)) = _
  rw [Nat.testBit_or, Nat.testBit_shiftLeft]
  by_cases hj : j < w
  · simp [hj, show ¬ w ≤ j by omega]
  · simp only [hj, decide_false, Bool.false_and]
    rw [Nat.testBit_lt_two_pow (Nat.lt_of_lt_of_le h (Nat.pow_le_pow_right (by omega) (by omega)))]
theorem pget_lorS {w z m i : Nat} (h : z < 2 ^ w) : pget w (Nat.lor z (Nat.shiftLeft m w)) (i + 1) = pget w m i := by
  apply Nat.eq_of_testBit_eq; intro j
  rw [tb_pget, tb_pget]
  show (decide (j < w) && (z ||| m <<< w).testBit (w * (i + 1) + j)) = _
  rw [Nat.testBit_or, Nat.testBit_shiftLeft]
  have e : w * (i + 1) + j = w + (w * i + j) := by rw [Nat.mul_add]; omega
  rw [e, Nat.testBit_lt_two_pow (x := z) (Nat.lt_of_lt_of_le h (Nat.pow_le_pow_right (by omega) (by omega)))]
  simp

theorem pack_ok {k : IntKind} {w : Nat} : ∀ (l : List GV) (i : Nat) (f : Nat → Option Nat) (r : Nat), pack k w l i f = some r → ∃ m, f m = some r ∧ unpack k w m 0 l.length = l
  | [], i, f, r, h => ⟨0, h, rfl⟩
  | v :: l, i, f, r, h => by
    cases v <;> try cases h
    rename_i k' z
    obtain ⟨h3, h4⟩ := ifb_some (show ifb (ikEq k k') _ none = some r from h)
    rw [ikEq_iff] at h3; subst h3
    cases z with
    | negSucc z => cases h4
    | ofNat z =>
      obtain ⟨h5, h6⟩ := ifb_some (show ifb (Nat.blt z (Nat.pow 2 w)) _ none = some r from h4)
      have hz : z < 2 ^ w := by simpa [Nat.blt_eq] using h5
      obtain ⟨m, h7, h8⟩ := pack_ok l (i + 1) _ r h6
      rw [force_eq] at h7
      refine ⟨_, h7, unpack_eq rfl fun j hj => ?_⟩
      cases j with
      | zero => rw [pget_lor0 hz]; rfl
      | succ j =>
        rw [pget_lorS hz, List.getElem?_cons_succ]
        have := unpack_get k w m l.length 0 j (by simpa using hj)
        rw [h8, Nat.zero_add] at this
        exact this

theorem csPack_ok {k : IntKind} {w : Nat} {c c' : Cs} (h : csPack k w c = some c') : csList c' = csList c ∧ ∃ len n, c' = .pk k w len n := by
  unfold csPack at h
  split at h
  · obtain ⟨m, h1, h2⟩ := obind_some h
    rw [force_eq] at h2
    obtain ⟨m', h3, h4⟩ := pack_ok _ _ _ _ h1
    obtain rfl := Option.some.inj h3
    rw [← Option.some.inj h2]
    exact ⟨h4, _, _, rfl⟩
  · obtain ⟨h1, h2⟩ := ifb_some h
    obtain ⟨h3, h4⟩ := ifb_some h2
    rw [ikEq_iff] at h1; subst h1
    obtain rfl := Nat.eq_of_beq_eq_true h3
    rw [← Option.some.inj h4]
    exact ⟨rfl, _, _, rfl⟩
theorem csCat_ok {a b c : Cs} (h : csCat a b = some c) : csList c = csList a ++ csList b := by
  unfold csCat at h
  split at h
  · rename_i k w len n k' w' len' n'
    obtain ⟨h1, h2⟩ := ifb_some h
    obtain ⟨h3, h4⟩ := ifb_some h2
    rw [ikEq_iff] at h1; subst h1
    obtain rfl := Nat.eq_of_beq_eq_true h3
    simp only [force_eq] at h4
    rw [← Option.some.inj h4]
    show unpack k w (pcat w n len n') 0 (len + len') = _
    refine unpack_eq (by simp [csList, unpack_len]) fun j hj => ?_
    by_cases hj1 : j < len
    · rw [List.getElem?_append_left (by simpa [csList, unpack_len] using hj1)]
      show (unpack k w n 0 len)[j]? = _
      rw [unpack_get _ _ _ _ _ _ hj1, Nat.zero_add, pget_pcat_l hj1]
    · rw [List.getElem?_append_right (by simp [csList, unpack_len]; omega)]
      obtain ⟨i, rfl⟩ : ∃ i, j = len + i := ⟨j - len, by omega⟩
      show (unpack k w n' 0 len')[len + i - (unpack k w n 0 len).length]? = _
      rw [unpack_len, show len + i - len = i by omega, unpack_get _ _ _ _ _ _ (by omega), Nat.zero_add, pget_pcat_r]
  · rw [forceL_eq] at h
    rw [← Option.some.inj h]; rfl

theorem objSpl_row {o : Nat} {c : Cs} {b b' : GObj} (h : objSpl o c b = some b') :
    ∃ l sz, b.row = some (l, sz, false) ∧ o + (csList c).length ≤ l.length ∧ b'.row = some (l.take o ++ (csList c ++ l.drop (o + (csList c).length)), sz, false) := by
  unfold objSpl at h
  split at h
  · rename_i l sz ro
    cases ro with
    | true => cases h
    | false =>
      have h0 : forceL (csList c) (fun c => ifb (Nat.ble (Nat.add o c.length) l.length) (forceL (l.take o ++ (c ++ l.drop (Nat.add o c.length))) fun l => some (GObj.cells l sz false)) none) = some b' := h
      rw [forceL_eq] at h0
      obtain ⟨h1, h2⟩ := ifb_some h0
      rw [forceL_eq] at h2
      exact ⟨l, sz, rfl, by simpa using h1, by rw [← Option.some.inj h2]; rfl⟩
  · rename_i k w len n ro
    cases ro with
    | true => cases h
    | false =>
      obtain ⟨c', h1, h2⟩ := obind_some (show obind (csPack k w c) _ = some b' from h)
      obtain ⟨h3, m, x, rfl⟩ := csPack_ok h1
      obtain ⟨h4, h5⟩ := ifb_some (show ifb (Nat.ble (Nat.add o m) len) (force (pspl w n o m x) fun n => some (GObj.pk k w len n false)) none = some b' from h2)
      rw [force_eq] at h5
      have hle : o + m ≤ len := by simpa using h4
      have hm : (csList c).length = m := by rw [← h3]; exact unpack_len _ _ _ _ _
      refine ⟨_, _, rfl, by rw [unpack_len, hm]; exact hle, ?_⟩
      rw [← Option.some.inj h5]
      show some (_, _, _) = some (_, _, _)
      rw [unpack_eq (l := (unpack k w n 0 len).take o ++ (csList c ++ (unpack k w n 0 len).drop (o + (csList c).length))) (by simp [unpack_len, hm]; omega) fun j hj => ?_]
      by_cases hj1 : j < o
      · rw [List.getElem?_append_left (by simp [unpack_len]; omega), List.getElem?_take, if_pos hj1, unpack_get _ _ _ _ _ _ hj, Nat.zero_add, pget_pspl_out (.inl hj1)]
      · rw [List.getElem?_append_right (by simp [unpack_len]; omega)]
        have e1 : (List.take o (unpack k w n 0 len)).length = o := by simp [unpack_len]; omega
        rw [e1]
        by_cases hj2 : j < o + m
        · obtain ⟨i, rfl⟩ : ∃ i, j = o + i := ⟨j - o, by omega⟩
          rw [show o + i - o = i by omega, List.getElem?_append_left (by omega), pget_pspl_in (by omega), ← h3]
          show (unpack k w x 0 m)[i]? = _
          rw [unpack_get _ _ _ _ _ _ (by omega), Nat.zero_add]
        · rw [List.getElem?_append_right (by omega), List.getElem?_drop, hm, show o + m + (j - o - m) = j by omega, unpack_get _ _ _ _ _ _ hj, Nat.zero_add, pget_pspl_out (.inr (by omega))]
  · cases h
theorem csObj_row {sz : Nat} {c : Cs} {b : GObj} (h : csObj sz c = some b) : b.row = some (csList c, sz, false) := by
  cases c with
  | l l => rw [← Option.some.inj h]; rfl
  | pk k w len n =>
    obtain ⟨h1, h2⟩ := ifb_some (show ifb (Nat.beq sz 1) _ none = some b from h)
    obtain rfl := Nat.eq_of_beq_eq_true h1
    rw [← Option.some.inj h2]; rfl
theorem optPack_ok {pk : Option (IntKind × Nat)} {c c' : Cs} (h : optPack pk c = some c') : csList c' = csList c := by
  unfold optPack at h
  split at h
  · split at h
    · rename_i h1
      rw [← Option.some.inj h]; exact (csPack_ok h1).1
    · rw [Option.some.inj h]
  · rw [Option.some.inj h]

end
end Go.Ev
