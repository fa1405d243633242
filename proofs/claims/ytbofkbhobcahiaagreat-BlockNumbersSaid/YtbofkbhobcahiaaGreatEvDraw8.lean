/- Regions that draw: looks. -/
import Derived.Test.YtbofkbhobcahiaaGreatEvDraw7
namespace Go.Ev
noncomputable section
section
variable {P : Program} {ops : Array Oper} {gs : List GOper} {fr : Tr GV} {E : Nat → Env} {H : Nat → Heap} {V : Nat → GV}
variable {cx : Cx} {φ0 φ : Phi} {w0 w : World} {S : Nat → Prop} {c : Nat} {a : Act}

theorem ptr_of_rel {φ : Phi} {p : Pos} {q : Nat} {u : Value} (h : rel φ (.ptr p q) u) : ∃ L, φ p = some L := by obtain ⟨L, h1, -⟩ := h; exact ⟨L, h1⟩
theorem rop_noTup {φ : Phi} {ρ : Opd → GV} {a : Act} {o : Oper} {h : Heap} {g : ROp} {v : GV} (HR : HRel φ h w) (hx : ∀ x, g = .ld1 x → ∃ u, rel φ (ρ x) u) (hg : rop ρ h g = some v) : ∀ l, v ≠ .tup l := by
  rintro l rfl
  cases g with
  | ld1 x =>
    obtain ⟨u, hu⟩ := hx x rfl
    have hg1 : rLd1 (ρ x) h = some (.tup l) := hg
    unfold rLd1 at hg1
    obtain ⟨p, q, e, h1⟩ := asPtr_some hg1
    rw [e] at hu
    obtain ⟨L, hp⟩ := ptr_of_rel hu
    obtain ⟨l', sz, ro, hr, hl⟩ := objGet_row h1
    obtain ⟨c, T, fz, R⟩ := HR.row hp hr
    obtain ⟨v, -, hv⟩ := R.cell _ _ hl
    exact hv
  | ldN n x =>
    have hg1 : rLdN n (ρ x) h = some (.tup l) := hg
    unfold rLdN at hg1
    obtain ⟨p, q, e, h1⟩ := asPtr_some hg1
    obtain ⟨c, h2, h3⟩ := obind_some h1
    rw [forceL_eq] at h3
    cases h3
  | str x =>
    have hg1 : rStr (ρ x) h = some (.tup l) := hg
    unfold rStr at hg1
    split at hg1 <;> try cases hg1
    obtain ⟨c, h2, h3⟩ := obind_some hg1
    obtain ⟨c, h4, h5⟩ := obind_some h3
    split at h5 <;> first | cases h5 | (rw [force_eq] at h5; cases h5)
  | lenC x =>
    have hg1 : rLenC (ρ x) h = some (.tup l) := hg
    unfold rLenC at hg1
    split at hg1 <;> try cases hg1
    split at hg1 <;> first | cases hg1 | (rw [force_eq] at hg1; cases hg1) | skip
  | row x =>
    have hg1 : rRow (ρ x) h = some (.tup l) := hg
    unfold rRow at hg1
    split at hg1 <;> try cases hg1
    obtain ⟨-, h2⟩ := ifb_some hg1
    obtain ⟨-, h3⟩ := ifb_some h2
    cases h3

theorem rop_t (ρ : Opd → GV) (h : Heap) (nx : Pos) (q : ROp) : rop ρ ⟨h.t, nx⟩ q = rop ρ h q := by
  cases q <;> simp only [rop]
  · unfold rLd1; simp only [hget_eq]
  · unfold rLdN; simp only [hget_eq]
  · unfold rStr; simp only [hget_eq]
  · unfold rLenC; simp only [hget_eq]
  · unfold rRow; simp only [hget_eq]
theorem least {p : Nat → Prop} (h : ∃ j, p j) : ∃ j, p j ∧ ∀ i, i < j → ¬ p i := by
  obtain ⟨j, hj⟩ := h
  induction j using Nat.strongRecOn with
  | _ j ih =>
    by_cases h : ∃ i, i < j ∧ p i
    · obtain ⟨i, h1, h2⟩ := h; exact ih i h1 h2
    · exact ⟨j, hj, fun i h1 h2 => h ⟨i, h1, h2⟩⟩

def PairsOk (ops : Array Oper) (gs : List GOper) : Prop := ∀ i j, i < j → j < ops.size → pairOk (ancs ops.toList []) i j (clsAt gs i) (clsAt gs j) = true

/-- What the checks say of look q, number k. -/
def CkFact (ops : Array Oper) (gs : List GOper) (fr : Tr GV) (E : Nat → Env) (H : Nat → Heap) (V : Nat → GV) (k : Nat) (o : Oper) (q : ROp) : Prop :=
  ∀ j, j < ops.size → isEW gs j →
    (k < j → ordd (ancs ops.toList []) k j = false → ∃ ρ', (∀ φ a, Looks φ fr (E k) a ops o → Opnds φ ρ' a o.op) ∧ rop ρ' (H (j + 1)) q = some (V k)) ∧
    (j < k → ordd (ancs ops.toList []) j k = false → ∃ ρ', (∀ φ a, Looks φ fr (E k) a ops o → Opnds φ ρ' a o.op) ∧ rop ρ' (H j) q = some (V k))

theorem Inv.read (T : Txt P ops gs fr E H V) (I : Inv ops gs fr E H cx φ0 w0 S c φ a w) (he : edgesLt ops.toList = true) (hsl : SlotsOk ops) {k : Nat} {o : Oper} (r : Ready ops S k o) {q : ROp}
    (hc : compOp P o = some (.r q)) (hcls : clsAt gs k = .r) (hv : rop (rho fr (E k)) (H k) q = some (V k)) (hck : CkFact ops gs fr E H V k o q) :
    ∃ u, (execOp a.eval o).run P w = .ok (.value u) w ∧ rel (φ.below (H (max c k)).nx.nat) (V k) u := by
  have hk := lt_of_at r.at_
  have hlook := I.looks he hsl r
  rcases Nat.lt_or_ge k c with h1 | h1
  · obtain ⟨k', rfl, hS, hew⟩ : ∃ k', c = k' + 1 ∧ S k' ∧ isEW gs k' := by
      rcases I.ctop with h | h
      · omega
      · exact h
    have hne : k ≠ k' := fun e => by subst e; rcases hew with h | h <;> rw [hcls] at h <;> cases h
    have hlt : k < k' := by omega
    have hk' : k' < ops.size := I.lt k' hS
    have hord : ordd (ancs ops.toList []) k k' = false := by
      cases e : ordd (ancs ops.toList []) k k' with
      | false => rfl
      | true => exact absurd hS (r.no_later he I.closed (Array.getElem?_eq_getElem hk') e)
    obtain ⟨ρ', hρ, hr⟩ := (hck k' hk' hew).1 hlt hord
    have HR := I.hrel T (j := k' + 1) (k := k' + 1) (Nat.le_refl _) (Nat.le_refl _) (by omega) (fun i h3 h4 => by omega)
    rw [Nat.max_eq_left (by omega)] at hlook ⊢
    exact rop_ok HR hc (hρ _ _ hlook) hr
  · rw [Nat.max_eq_right h1] at hlook ⊢
    by_cases hx : ∃ j, c ≤ j ∧ j < k ∧ isEW gs j
    · obtain ⟨j, ⟨h2, h3, h4⟩, hmin⟩ := least hx
      have hnS : ¬ S j := fun hs => by have := I.cmax j hs h4; omega
      have hord : ordd (ancs ops.toList []) j k = false := by
        cases e : ordd (ancs ops.toList []) j k with
        | false => rfl
        | true => exact absurd (r.of_ordd he I.closed e) hnS
      obtain ⟨ρ', hρ, hr⟩ := (hck j (by omega) h4).2 h3 hord
      have HR := I.hrel T (j := j) (k := k) h2 (by omega) (by omega) (fun i h5 h6 h7 => hmin i h6 ⟨h5, by omega, h7⟩)
      exact rop_ok HR hc (hρ _ _ hlook) (by rw [rop_t]; exact hr)
    · have HR := I.hrel T (j := k) (k := k) h1 (Nat.le_refl _) (by omega) (fun i h5 h6 h7 => hx ⟨i, h5, h6, h7⟩)
      exact rop_ok HR hc hlook.opnds hv

/-- A conversion's run: the block's mark is laid anew. -/
theorem conv_run {L : Loc} {cs : Array Value} {ty : TypeId} {fz : Nat × Nat} (hat : w.heap[L.r]? = some (.cells cs ty fz)) (hfz : fz.1 = fz.2 ∨ cs.size ≤ fz.1) {s d e e0 : TypeId} (hs : P.underlying s = some (.slice e0)) (hd : P.underlying d = some (.slice e)) (hsd : (s == d) = true) (he : P.underlying e = some (.int .u8)) (q : Nat) (len cc : Nat) :
    ∃ w' fz', (convert s d (.slice (some ⟨L.r, L.d + q, none⟩) len cc)).run P w = .ok (.slice (some ⟨L.r, L.d + q, none⟩) len cc) w' ∧ Turned w w' L.r cs ty fz' ∧ (fz'.1 = fz'.2 ∨ cs.size ≤ fz'.1) := by
  have hshape : w.shape? L.r = some (ty, cs.size) := by simp [World.shape?, hat]
  refine ⟨w.freeze ⟨L.r, cs.size, none⟩ 1, if fz.1 == fz.2 then (cs.size, cs.size + 1) else (min fz.1 cs.size, max fz.2 (cs.size + 1)), ?_, ⟨?_, fun s hs => ?_, ?_, rfl, rfl, rfl⟩, ?_⟩
  · simp [convert, run_underlying hs, run_underlying hd, run_underlying he, hsd, markStringish, hshape]
  · simp [World.freeze, Array.getElem?_modify, hat]
  · simp [World.freeze, Array.getElem?_modify, Ne.symm hs]
  · simp [World.freeze]
  · rcases hfz with h1 | h1
    · simp [h1]
    · by_cases h2 : fz.1 = fz.2
      · simp [h2]
      · right; simp [h2, Nat.min_eq_right h1]
theorem turned_rel {w' : World} {r : Nat} {cs : Array Value} {ty : TypeId} {fz fz' : Nat × Nat} (hat : w.heap[r]? = some (.cells cs ty fz)) (ht : Turned w w' r cs ty fz') (hfz : fz'.1 = fz'.2 ∨ cs.size ≤ fz'.1) {ψ : Phi} {b : GObj} {M : Loc} (hb : relO ψ w b M) : relO ψ w' b M := by
  by_cases h1 : M.r = r
  · cases b with
    | gone => trivial
    | chan cap buf =>
      obtain ⟨b, s, r', h2, -⟩ := hb
      rw [h1, hat] at h2; cases h2
    | cells l sz ro =>
      obtain ⟨c2, T2, fz2, R⟩ := (relO_row (o := .cells l sz ro) rfl).1 hb
      have h3 := R.at_
      rw [h1, hat] at h3
      cases h3
      exact (relO_row (o := .cells l sz ro) rfl).2 ⟨_, _, fz', ⟨by rw [h1]; exact ht.at_, R.size, R.elem, fun _ => hfz, R.cell⟩⟩
    | pk k w1 len n ro =>
      obtain ⟨c2, T2, fz2, R⟩ := (relO_row (o := .pk k w1 len n ro) rfl).1 hb
      have h3 := R.at_
      rw [h1, hat] at h3
      cases h3
      exact (relO_row (o := .pk k w1 len n ro) rfl).2 ⟨_, _, fz', ⟨by rw [h1]; exact ht.at_, R.size, R.elem, fun _ => hfz, R.cell⟩⟩
  · exact relO_other (.refl ψ) (ht.other _ h1) hb

theorem Inv.turn {w' : World} {r1 : Nat} (I : Inv ops gs fr E H cx φ0 w0 S c φ a w) (hrel : ∀ (ψ : Phi) (b : GObj) (M : Loc), relO ψ w b M → relO ψ w' b M) (hsz : w'.heap.size = w.heap.size) (hs : ∀ r, r ≠ r1 → w'.heap[r]? = w.heap[r]?)
    (hr1 : r1 < w0.heap.size → Wr φ0 (H 0) r1) (h1 : w'.tape = w.tape) (h2 : w'.os = w.os) (h3 : w'.output = w.output) : Inv ops gs fr E H cx φ0 w0 S c φ a w' where
  closed := I.closed
  lt := I.lt
  cle := I.cle
  cS := I.cS
  ctop := I.ctop
  cmax := I.cmax
  slot := I.slot
  dom p L hp := by rw [hsz]; exact I.dom p L hp
  obj p L b m hp hc := hrel _ _ _ (I.obj p L b m hp hc)
  inj := I.inj
  size := I.size
  defers := I.defers
  le := I.le
  hsize := by rw [hsz]; exact I.hsize
  same r hr hn := by rw [hs r fun e => hn (e ▸ hr1 (e ▸ hr))]; exact I.same r hr hn
  wr := I.wr
  lv := I.lv
  ids := I.ids
  tape := h1.trans I.tape
  os := h2.trans I.os
  output := h3.trans I.output

/-- What the checks say of a conversion, number k. -/
def ConvFact (ops : Array Oper) (gs : List GOper) (H : Nat → Heap) (V : Nat → GV) (k : Nat) : Prop :=
  ∀ p q len cap e, V k = .sl p q len cap e → ∃ k1, k1 < k ∧ ordd (ancs ops.toList []) k1 k = true ∧ clsAt gs k1 = .a ∧ p = (H k1).nx ∧ (H (k1 + 1)).nx.nat = (H k1).nx.nat + 1 ∧ RowW (Tr.get .gone p (H (k1 + 1)).t) ∧
    ∀ j, k1 < j → j < ops.size → isEW gs j → RowW (Tr.get .gone p (H (j + 1)).t)

theorem compOp_conv {o : Oper} {x : Opd} (hc : compOp P o = some (.n (.conv x))) : ∃ s d y e0 e, o.op = .convert s d y ∧ compOpd y = some x ∧ P.underlying s = some (.slice e0) ∧ P.underlying d = some (.slice e) ∧ (s == d) = true ∧ P.underlying e = some (.int .u8) := by
  cases hop : o.op <;> simp only [compOp, hop] at hc
  case convert s d y =>
    split at hc <;> try cases hc
    · split at hc <;> try cases hc
    · split at hc <;> try cases hc
      rename_i e0 e y' hs hd hy hsd
      split at hc <;> try cases hc
      rename_i he
      exact ⟨s, d, y, e0, e, rfl, hy, hs, hd, hsd, he⟩
  case call c =>
    split at hc <;> try cases hc
    · obtain ⟨_, _, e⟩ := map_some hc; cases e
    · (repeat' (first | (cases hc; done) | (obtain ⟨_, _, e⟩ := map_some hc; cases e; done) | split at hc))
  all_goals
    (repeat' (first | (cases hc; done) | (obtain ⟨_, _, e⟩ := map_some hc; cases e; done) | (obtain ⟨_, e⟩ := compBin_p hc; cases e; done) | (split at hc; skip)))

theorem Inv.conv (T : Txt P ops gs fr E H V) (I : Inv ops gs fr E H cx φ0 w0 S c φ a w) (he : edgesLt ops.toList = true) (hsl : SlotsOk ops) (hdst : ∀ (k : Nat) (o : Oper), ops[k]? = some o → dstOk cx o.dst = true) {k : Nat} {o : Oper} (r : Ready ops S k o) {x : Opd}
    (hc : compOp P o = some (.n (.conv x))) (hcls : clsAt gs k = .v) (hv : nop (rho fr (E k)) (H k) (.conv x) = some (V k, H (k + 1))) (hcv : ConvFact ops gs H V k) :
    ∃ u w', (execOp a.eval o).run P w = .ok (.value u) w' ∧ Inv ops gs fr E H cx φ0 w0 (With S k) c φ (a.put o.dst u) w' := by
  have hk := lt_of_at r.at_
  have hlook := I.looks he hsl r
  obtain ⟨hH, hVx, p, q, len, cap, e, hV, -⟩ := conv_same hv
  obtain ⟨k1, h1, h2, h3, h4, h5, h6, h7⟩ := hcv p q len cap e hV
  obtain ⟨s, d, y, e0, e1, hop, hy, hs, hd, hsd, hee⟩ := compOp_conv hc
  have hrel := hlook.opnds.x y (by rw [hop]; simp [Op.operands]) x hy
  rw [← hVx] at hrel
  have hrel0 := hrel
  rw [hV] at hrel
  obtain ⟨L, cc, hp, hu, -⟩ := hrel
  obtain ⟨hpl, hp⟩ := Phi.below_some hp
  obtain ⟨hlt, b, m, hcur⟩ := I.dom p L hp
  have hS1 : S k1 := r.of_ordd he I.closed h2
  have hrow : RowW b := by
    rcases hcur with ⟨g1, g2, g3⟩ | ⟨i, g1, g2, g3, g4, g5, g6, g7, g8⟩
    · have hk1c : k1 < c := by
        rcases Nat.lt_or_ge k1 c with h | h
        · exact h
        · have := T.nx k1 c h (by omega); rw [h4] at g1; omega
      rcases I.ctop with h | ⟨j, hj, hSj, hew⟩
      · omega
      · have hne : k1 ≠ j := fun e => by subst e; rcases hew with h | h <;> rw [h3] at h <;> cases h
        have := h7 j (by omega) (I.lt j hSj) hew
        rw [g2, hj]; exact this
    · have hi : i = k1 := by
        rcases Nat.lt_or_ge i k1 with h | h
        · have := T.nx k1 (i + 1) (by omega) (by omega); rw [h4] at g6; omega
        · rcases Nat.lt_or_ge k1 i with h8 | h8
          · have := T.nx i (k1 + 1) (by omega) (by omega); rw [h4] at g5; omega
          · omega
      subst hi
      rw [g7]; exact h6
  have hobj := I.obj p L b m hp hcur
  obtain ⟨l, sz, hr⟩ : ∃ l sz, b.row = some (l, sz, false) := by
    obtain ⟨g1, g2⟩ := hrow
    cases b <;> simp only [GObj.isRow, GObj.wr, Bool.not_eq_true', reduceCtorEq] at g1 g2
    · subst g2; exact ⟨_, _, rfl⟩
    · subst g2; exact ⟨_, _, rfl⟩
  obtain ⟨cs, ty, fz, R⟩ := (relO_row hr).1 hobj
  obtain ⟨w', fz', hrun, ht, hfz'⟩ := conv_run (P := P) R.at_ (R.frz rfl) hs hd hsd hee q len cc
  refine ⟨a.eval y, w', ?_, ?_⟩
  · rw [hu]
    simp only [execOp, hop]
    rw [hu, Sem.run_bind, hrun]; rfl
  · have I' := I.turn (w' := w') (r1 := L.r) (fun ψ b M hb => turned_rel R.at_ ht hfz' hb) ht.size ht.other (fun h => I.wr _ h ⟨p, L, b, m, hp, rfl, hcur, hrow.2⟩) ht.tape ht.os ht.output
    refine I'.quiet T he hsl hdst r (by rintro (h | h) <;> rw [hcls] at h <;> cases h) hH ?_
    exact hrel0.mono (Phi.below_le (.refl φ) (T.nx _ _ (by omega) (by have := I.cle; omega)))

end
end
end Go.Ev
