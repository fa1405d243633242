/- Regions that draw: one operation more. -/
import Derived.Test.YtbofkbhobcahiaaGreatEvDraw4
namespace Go.Ev
noncomputable section
section
variable {P : Program} {ops : Array Oper} {gs : List GOper} {fr : Tr GV} {E : Nat → Env} {H : Nat → Heap} {V : Nat → GV}
variable {cx : Cx} {φ0 φ : Phi} {w0 w : World} {S : Nat → Prop} {c : Nat} {a : Act}

theorem Txt.elook (T : Txt P ops gs fr E H V) {t : Nat} : ∀ i k, k ≤ i → i ≤ ops.size → (∀ j o, k ≤ j → j < i → ops[j]? = some o → o.dst ≠ some t) → Go.Ev.elook t fr (E i) = Go.Ev.elook t fr (E k) := by
  intro i
  induction i with
  | zero => intro k h _ _; obtain rfl : k = 0 := (by omega); rfl
  | succ i ih =>
    intro k h hi hno
    rcases Nat.lt_or_ge k (i + 1) with h1 | h1
    · rw [← ih k (by omega) (by omega) fun j o h2 h3 => hno j o h2 (by omega)]
      obtain ⟨o, g, ho, hg, -⟩ := T.get (show i < ops.size by omega)
      rw [(T.step i o g ho hg).1]
      have := hno i o (by omega) (by omega) ho
      cases hd : o.dst with
      | none => rfl
      | some d =>
        show Go.Ev.elook t fr ((d, V i) :: E i) = _
        rw [elook_cons, if_neg fun e => this (by rw [hd, e])]
    · obtain rfl : k = i + 1 := (by omega)
      rfl

/-- Slots that wait for each other. -/
def SlotsOk (ops : Array Oper) : Prop := ∀ i j x y, i < j → ops[i]? = some x → ops[j]? = some y → slotsOk ops (ancs ops.toList []) i j x y = true

theorem slots_w {i j : Nat} {x y : Oper} (h : slotsOk ops (ancs ops.toList []) i j x y = true) {d : Nat} (hx : x.dst = some d) (hy : d ∈ y.looksAt ops ∨ y.dst = some d) : ordd (ancs ops.toList []) i j = true := by
  simp only [slotsOk, hx, Bool.and_eq_true] at h
  have h1 := h.1
  rw [Bool.or_eq_true, Bool.not_eq_true', Bool.or_eq_false_iff] at h1
  rcases h1 with ⟨h2, h3⟩ | h1
  · rcases hy with hy | hy
    · rw [List.contains_iff_mem.2 hy] at h2; cases h2
    · rw [hy] at h3; simp at h3
  · exact h1
theorem slots_r {i j : Nat} {x y : Oper} (h : slotsOk ops (ancs ops.toList []) i j x y = true) {d : Nat} (hy : y.dst = some d) (hx : d ∈ x.looksAt ops) : ordd (ancs ops.toList []) i j = true := by
  simp only [slotsOk, hy, Bool.and_eq_true] at h
  have h1 := h.2
  rw [Bool.or_eq_true, Bool.not_eq_true'] at h1
  rcases h1 with h2 | h1
  · rw [List.contains_iff_mem.2 hx] at h2; cases h2
  · exact h1

/-- Number k may run. -/
structure Ready (ops : Array Oper) (S : Nat → Prop) (k : Nat) (o : Oper) : Prop where
  at_ : ops[k]? = some o
  not : ¬ S k
  pre : ∀ e ∈ o.after.toList, Region.binds .any e = true → S e.on

def With (S : Nat → Prop) (k : Nat) : Nat → Prop := fun i => i = k ∨ S i

theorem lt_of_at {k : Nat} {o : Oper} (h : ops[k]? = some o) : k < ops.size := by
  rcases Nat.lt_or_ge k ops.size with h1 | h1
  · exact h1
  · rw [Array.getElem?_eq_none h1] at h; cases h

theorem Ready.of_ordd {k i : Nat} {o : Oper} (r : Ready ops S k o) (he : edgesLt ops.toList = true) (hc : Closed ops S) (h : ordd (ancs ops.toList []) i k = true) : S i := ordd_closed he hc k o i r.at_ r.pre h
theorem Ready.no_later {k j : Nat} {o y : Oper} (r : Ready ops S k o) (he : edgesLt ops.toList = true) (hc : Closed ops S) (hj : ops[j]? = some y) (h : ordd (ancs ops.toList []) k j = true) : ¬ S j := fun hs =>
  r.not (ordd_closed he hc j y k hj (fun e he' hb => hc j y hs hj e he' hb) h)

theorem With.closed {k : Nat} {o : Oper} (r : Ready ops S k o) (hc : Closed ops S) : Closed ops (With S k) := by
  intro j y hj hy e he hb
  rcases hj with rfl | hj
  · rw [r.at_] at hy; obtain rfl := Option.some.inj hy
    exact .inr (r.pre e he hb)
  · exact .inr (hc j y hj hy e he hb)

/-- What a ready operation looks at is what it looks at in the order of the text. -/
theorem Inv.looks (I : Inv ops gs fr E H cx φ0 w0 S c φ a w) (he : edgesLt ops.toList = true) (hsl : SlotsOk ops) {k : Nat} {o : Oper} (r : Ready ops S k o) : Looks (φ.below (H (max c k)).nx.nat) fr (E k) a ops o := by
  intro t ht
  have hk := lt_of_at r.at_
  refine I.slot t k (by omega) (fun j x hj hx hd => ?_) (fun j y hj hy hd hs => ?_)
  · exact r.of_ordd he I.closed (slots_w (hsl j k x o hj hx r.at_) hd (.inl ht))
  · rcases Nat.lt_or_ge k j with h1 | h1
    · exact r.no_later he I.closed hy (slots_r (hsl k j o y h1 r.at_ hy) hd ht) hs
    · obtain rfl : j = k := (by omega)
      exact r.not hs

theorem Inv.slot_put (T : Txt P ops gs fr E H V) (I : Inv ops gs fr E H cx φ0 w0 S c φ a w) (he : edgesLt ops.toList = true) (hsl : SlotsOk ops) (hdst : ∀ (k : Nat) (o : Oper), ops[k]? = some o → dstOk cx o.dst = true) {k : Nat} {o : Oper} (r : Ready ops S k o) {φ' : Phi} {c' : Nat} {u : Value}
    (hle : φ.le φ') (hc : c ≤ c') (hc' : c' ≤ ops.size) (hu : rel (φ'.below (H (max c' (k + 1))).nx.nat) (V k) u) :
    ∀ (t i : Nat), i ≤ ops.size → (∀ (j : Nat) (o : Oper), j < i → ops[j]? = some o → o.dst = some t → With S k j) → (∀ (j : Nat) (o : Oper), i ≤ j → ops[j]? = some o → o.dst = some t → ¬ With S k j) →
      rel (φ'.below (H (max c' i)).nx.nat) (Go.Ev.elook t fr (E i)) ((a.put o.dst u).tmps.getD t undef) := by
  intro t i hi h1 h2
  have hk := lt_of_at r.at_
  by_cases hd : o.dst = some t
  · -- the slot is k's
    have hki : k < i := by
      rcases Nat.lt_or_ge k i with h3 | h3
      · exact h3
      · exact absurd (.inl rfl) (h2 k o h3 r.at_ hd)
    have hno : ∀ j y, k + 1 ≤ j → j < i → ops[j]? = some y → y.dst ≠ some t := by
      intro j y h3 h4 hy hyd
      rcases h1 j y h4 hy hyd with h5 | h5
      · omega
      · exact r.no_later he I.closed hy (slots_w (hsl k j o y (by omega) r.at_ hy) hd (.inr hyd)) h5
    rw [T.elook i (k + 1) (by omega) hi hno]
    obtain ⟨o', g, ho', hg, -⟩ := T.get hk
    obtain rfl : o = o' := by rw [r.at_] at ho'; exact Option.some.inj ho'
    rw [(T.step k o g ho' hg).1, hd]
    show rel _ (Go.Ev.elook t fr ((t, V k) :: E k)) _
    rw [elook_cons, if_pos rfl]
    have hlt : t < a.tmps.size := by
      have := hdst k o r.at_
      rw [hd] at this
      rw [I.size]; exact dst_lt this
    have : (a.put (some t) u).tmps.getD t undef = u := by simp [Act.put, Array.getD_eq_getD_getElem?, hlt]
    rw [this]
    exact hu.mono (Phi.below_le (.refl φ') (T.nx _ _ (by omega) (by omega)))
  · have : (a.put o.dst u).tmps.getD t undef = a.tmps.getD t undef := by
      cases hod : o.dst with
      | none => rfl
      | some d =>
        have hne : d ≠ t := fun e => hd (by rw [hod, e])
        simp [Act.put, Array.getD_eq_getD_getElem?, Array.getElem?_setIfInBounds_ne hne]
    rw [this]
    refine (I.slot t i hi (fun j y h3 hy hyd => ?_) (fun j y h3 hy hyd hs => h2 j y h3 hy hyd (.inr hs))).mono (Phi.below_le hle (T.nx _ _ (by omega) (by omega)))
    rcases h1 j y h3 hy hyd with h5 | h5
    · subst h5; rw [r.at_] at hy; obtain rfl := Option.some.inj hy; exact absurd hyd hd
    · exact h5

theorem Cur.old {k : Nat} {p : Pos} {b : GObj} {m : Nat} (h : Cur ops gs H c S p b m) : Cur ops gs H c (With S k) p b m := by
  rcases h with h | ⟨i, h1, h2⟩
  · exact .inl h
  · exact .inr ⟨i, .inr h1, h2⟩
theorem Cur.quiet {k : Nat} (hH : H (k + 1) = H k) {p : Pos} {b : GObj} {m : Nat} (h : Cur ops gs H c (With S k) p b m) : Cur ops gs H c S p b m := by
  rcases h with h | ⟨i, h1, h2, h3, h4, h5, h6, h7⟩
  · exact .inl h
  · rcases h1 with rfl | h1
    · rw [hH] at h6; omega
    · exact .inr ⟨i, h1, h2, h3, h4, h5, h6, h7⟩

/-- One that leaves the ghost's heap. -/
theorem Inv.quiet (T : Txt P ops gs fr E H V) (I : Inv ops gs fr E H cx φ0 w0 S c φ a w) (he : edgesLt ops.toList = true) (hsl : SlotsOk ops) (hdst : ∀ (k : Nat) (o : Oper), ops[k]? = some o → dstOk cx o.dst = true) {k : Nat} {o : Oper} (r : Ready ops S k o) {u : Value}
    (hq : ¬ isEW gs k) (hH : H (k + 1) = H k) (hu : rel (φ.below (H (max c (k + 1))).nx.nat) (V k) u) : Inv ops gs fr E H cx φ0 w0 (With S k) c φ (a.put o.dst u) w where
  closed := With.closed r I.closed
  lt i hi := by
    rcases hi with rfl | hi
    · exact lt_of_at r.at_
    · exact I.lt i hi
  cle := I.cle
  cS i hi h := .inr (I.cS i hi h)
  ctop := I.ctop.imp id fun ⟨j, h1, h2, h3⟩ => ⟨j, h1, .inr h2, h3⟩
  cmax i hi h := by
    rcases hi with rfl | hi
    · exact absurd h hq
    · exact I.cmax i hi h
  slot := I.slot_put T he hsl hdst r (.refl φ) (Nat.le_refl _) I.cle hu
  dom p L hp := ⟨(I.dom p L hp).1, by obtain ⟨b, m, h⟩ := (I.dom p L hp).2; exact ⟨b, m, h.old⟩⟩
  obj p L b m hp h := I.obj p L b m hp (h.quiet hH)
  inj p q L M b b' m m' hp hq' h h' := I.inj p q L M b b' m m' hp hq' (h.quiet hH) (h'.quiet hH)
  size := by rw [put_size]; exact I.size
  defers := by rw [put_defers']; exact I.defers
  le := I.le
  hsize := I.hsize
  same := I.same
  wr r hr := fun ⟨p, L, b, m, h1, h2, h3, h4⟩ => I.wr r hr ⟨p, L, b, m, h1, h2, h3.quiet hH, h4⟩
  lv r hr := fun ⟨p, L, b, m, h1, h2, h3, h4⟩ => I.lv r hr ⟨p, L, b, m, h1, h2, h3.quiet hH, h4⟩
  ids := I.ids
  tape := I.tape
  os := I.os
  output := I.output

end
end
end Go.Ev
