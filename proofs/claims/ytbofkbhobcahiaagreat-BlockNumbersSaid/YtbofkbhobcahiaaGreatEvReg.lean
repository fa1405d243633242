/- Slots, guards, regions in the order of the text. -/
import Derived.Test.YtbofkbhobcahiaaGreatEvGop
namespace Go.Ev
noncomputable section
section
variable {P : Program} {φ : Phi} {a : Act} {o : Oper} {h : Heap} {w : World} {c : Cx} {ops : Array Oper} {fr : Tr GV} {env : Env}

/-- What the slots hold, as the ghost knows it inside a region. -/
def EnvRel (φ : Phi) (fr : Tr GV) (env : Env) (a : Act) : Prop := ∀ t, rel φ (elook t fr env) (a.tmps.getD t undef)
theorem EnvRel.mono {φ φ' : Phi} (h : EnvRel φ fr env a) (hle : φ.le φ') : EnvRel φ' fr env a := fun t => (h t).mono hle

theorem EnvRel.opnds (he : EnvRel φ fr env a) (op : Op) : Opnds φ (rho fr env) a op where
  c g := rfl
  x x _ y hy := by
    cases x with
    | tmp t => cases hy; exact he t
    | const v =>
      obtain ⟨g, hg, rfl⟩ := map_some hy
      exact ofConst_ok hg
    | func f => cases hy; exact ⟨f, #[], rfl, rfl, trivial⟩
    | global g => cases hy

theorem elook_cons (s t : Nat) (v : GV) (fr : Tr GV) (env : Env) : elook t fr ((s, v) :: env) = if s = t then v else elook t fr env := by
  show ifb (Nat.beq s t) v (elook t fr env) = _
  rw [ifb_eq]
  by_cases e : s = t
  · subst e; simp
  · rw [if_neg e, if_neg]; intro h; exact e (nat_beq h)

theorem EnvRel.put {dst : Option Nat} {v : GV} {u : Value} (he : EnvRel φ fr env a) (hv : rel φ v u) (hd : ∀ d, dst = some d → d < a.tmps.size) : EnvRel φ fr (put dst v env) (a.put dst u) := by
  cases dst with
  | none => exact he
  | some d =>
    intro t
    show rel φ (elook t fr ((d, v) :: env)) _
    rw [elook_cons]
    have hlt := hd d rfl
    by_cases e : d = t
    · subst e
      rw [if_pos rfl]
      have : (a.put (some d) u).tmps.getD d undef = u := by simp [Act.put, Array.getD_eq_getD_getElem?, hlt]
      rw [this]; exact hv
    · rw [if_neg e]
      have : (a.put (some d) u).tmps.getD t undef = a.tmps.getD t undef := by simp [Act.put, Array.getD_eq_getD_getElem?, Array.getElem?_setIfInBounds_ne e]
      rw [this]; exact he t

theorem put_size (a : Act) (dst : Option Tmp) (u : Value) : (a.put dst u).tmps.size = a.tmps.size := by cases dst <;> simp [Act.put]
theorem put_defers' (a : Act) (dst : Option Tmp) (u : Value) : (a.put dst u).defers = a.defers := by cases dst <;> simp [Act.put]

/-- What an operation looks at is known. -/
def Looks (φ : Phi) (fr : Tr GV) (env : Env) (a : Act) (ops : Array Oper) (o : Oper) : Prop := ∀ t ∈ o.looksAt ops, rel φ (elook t fr env) (a.tmps.getD t undef)
theorem EnvRel.looks (h : EnvRel φ fr env a) : Looks φ fr env a ops o := fun t _ => h t
theorem Looks.opnds (he : Looks φ fr env a ops o) : Opnds φ (rho fr env) a o.op where
  c g := rfl
  x x hm y hy := by
    cases x with
    | tmp t => cases hy; exact he t (List.mem_append_left _ (List.mem_filterMap.2 ⟨.tmp t, by simpa using hm, rfl⟩))
    | const v =>
      obtain ⟨g, hg, rfl⟩ := map_some hy
      exact ofConst_ok hg
    | func f => cases hy; exact ⟨f, #[], rfl, rfl, trivial⟩
    | global g => cases hy

/-- A guard's two ways. -/
theorem guard_ok {g : Option (Nat × Bool)} {run : (GV → Heap → R) → R} {k : GV → Heap → R} {r : Out} (hc : compGuard ops o.guard = some g) (hg : guardO g (fun t => elook t fr env) h run k = some r) :
    (run k = some r ∧ ∀ φ a, Looks φ fr env a ops o → Region.wanted o (yielded ops a.tmps) = true) ∨ (k undefG h = some r ∧ ∀ φ a, Looks φ fr env a ops o → Region.wanted o (yielded ops a.tmps) = false) := by
  unfold compGuard at hc
  split at hc
  · rename_i hgd
    obtain rfl := Option.some.inj hc
    exact .inl ⟨hg, fun φ a _ => by simp [Region.wanted, hgd]⟩
  · rename_i j want hgd
    split at hc <;> try cases hc
    rename_i d hd
    have hm : d ∈ o.looksAt ops := List.mem_append_right _ (by rw [hgd]; simp [hd])
    have hg1 : guardC (elook d fr env) want h run k = some r := hg
    unfold guardC at hg1
    split at hg1
    · rename_i b hb
      have hy : ∀ φ a, Looks φ fr env a ops o → yielded ops a.tmps j = some b := by
        intro φ a he
        have := he d hm
        rw [hb] at this
        have this : a.tmps.getD d undef = .bool b := this
        have h2 : a.tmps[d]? = some (.bool b) := by
          rw [Array.getD_eq_getD_getElem?] at this
          cases h3 : a.tmps[d]? with
          | none => rw [h3] at this; cases this
          | some x => rw [h3] at this; rw [← this]; rfl
        simp [yielded, hd, h2]
      rw [ifb_eq] at hg1
      have hw : ∀ φ a, Looks φ fr env a ops o → Region.wanted o (yielded ops a.tmps) = (b == want) := by
        intro φ a he
        simp [Region.wanted, hgd, hy φ a he]
      split at hg1
      · rename_i hb'
        refine .inl ⟨hg1, fun φ a he => ?_⟩
        rw [hw φ a he]; revert hb'; cases b <;> cases want <;> simp [ifb]
      · rename_i hb'
        refine .inr ⟨hg1, fun φ a he => ?_⟩
        rw [hw φ a he]; revert hb'; cases b <;> cases want <;> simp [ifb]
    · rename_i l hb
      refine .inr ⟨hg1, fun φ a he => ?_⟩
      have := he d hm
      rw [hb] at this
      obtain ⟨vs, this, -⟩ := this
      have hy : yielded ops a.tmps j = none := by
        rw [Array.getD_eq_getD_getElem?] at this
        cases h3 : a.tmps[d]? with
        | none => simp [yielded, hd, h3]
        | some x =>
          rw [h3] at this
          have this : x = .tuple vs := this
          subst this
          simp [yielded, hd, h3]
      simp [Region.wanted, hgd, hy]
    · cases hg1

/-- An operation with its guard. -/
def ODoes (P : Program) (ops : Array Oper) (o : Oper) (fr : Tr GV) (env : Env) (h : Heap) (v : GV) (h' : Heap) : Prop :=
  ∀ (φ : Phi) (a : Act) (w : World), EnvRel φ fr env a → HRel φ h w → ∀ next Q, (∀ φ' u w', rel φ' v u → HRel φ' h' w' → Fr φ h w φ' h' w' → next (a.put o.dst u) w') →
    if Region.wanted o (yielded ops a.tmps) then o.wp P a w next Q ∨ (o.asks P a w ∧ LetsOut Q) else next (a.put o.dst undef) w

theorem compOper_some {g : GOper} (hc : compOper P c ops o = some g) : dstOk c o.dst = true ∧ g.dst = o.dst ∧ compGuard ops o.guard = some g.g ∧ compOp P o = some g.op := by
  unfold compOper at hc
  split at hc <;> try cases hc
  rename_i hd
  split at hc <;> try cases hc
  rename_i gd op h1 h2
  exact ⟨hd, rfl, h1, h2⟩

theorem oper_ok {call : CallT} (hcall : CallOk P call) {g : GOper} {k : GV → Heap → R} {r : Out} (hc : compOper P c ops o = some g) (hg : guardO g.g (fun t => elook t fr env) h (fun k => gop call (rho fr env) h k g.op) k = some r) :
    ∃ v h', k v h' = some r ∧ ODoes P ops o fr env h v h' := by
  obtain ⟨-, -, h1, h2⟩ := compOper_some hc
  rcases guard_ok h1 hg with ⟨h3, h4⟩ | ⟨h3, h4⟩
  · obtain ⟨v, h', h5, -, hdoes⟩ := gop_ok hcall h2 h3
    refine ⟨v, h', h5, fun φ a w he H next Q hn => ?_⟩
    rw [h4 φ a he.looks, if_pos rfl]
    exact .inl (hdoes φ a w (he.opnds _) H next Q hn)
  · refine ⟨undefG, h, h3, fun φ a w he H next Q hn => ?_⟩
    rw [h4 φ a he.looks, if_neg (by simp)]
    exact hn φ undef w ⟨#[], rfl, trivial⟩ H (.refl _ _ _)

/-- What the ghost knows of the slots between regions. -/
structure FrRel (c : Cx) (φ : Phi) (fr : Tr GV) (a : Act) : Prop where
  slot : ∀ t, rel φ (Tr.get .bad (Pos.of t) fr) (a.tmps.getD t undef)
  bad : ∀ t, c.tr.contains t = false → c.nargs ≤ t → Tr.get .bad (Pos.of t) fr = .bad
  size : a.tmps.size = c.nt
  defers : a.defers = []

theorem FrRel.toEnv (hf : FrRel c φ fr a) : EnvRel φ fr [] a := hf.slot

/-- The slots that an environment has are those that the region writes. -/
def EnvDom (ops : List Oper) (env : Env) : Prop := ∀ p ∈ env, ∃ o ∈ ops, o.dst = some p.1
theorem elook_dom {t : Nat} (ht : ∀ p ∈ env, p.1 ≠ t) : elook t fr env = Tr.get .bad (Pos.of t) fr := by
  induction env with
  | nil => rfl
  | cons p env ih =>
    obtain ⟨s, v⟩ := p
    rw [elook_cons, if_neg (ht (s, v) (by simp))]
    exact ih fun p hp => ht p (by simp [hp])

theorem outs_mem (c : Cx) : ∀ (l : List Oper) (t : Nat), t ∈ outsOf c l ↔ c.tr.contains t = true ∧ ∃ o ∈ l, o.dst = some t
  | [], t => by simp [outsOf]
  | o :: l, t => by
    have ih := outs_mem c l t
    unfold outsOf
    split
    · rename_i d hd
      split
      · rename_i htr
        split
        · rename_i hmem
          rw [ih]
          constructor
          · rintro ⟨h1, o', ho', h2⟩; exact ⟨h1, o', by simp [ho'], h2⟩
          · rintro ⟨h1, o', ho', h2⟩
            rcases List.mem_cons.1 ho' with rfl | ho'
            · rw [hd] at h2; obtain rfl := Option.some.inj h2
              have : d ∈ outsOf c l := by simpa using hmem
              exact (outs_mem c l d).1 this
            · exact ⟨h1, o', ho', h2⟩
        · rw [List.mem_cons, ih]
          constructor
          · rintro (rfl | ⟨h1, o', ho', h2⟩)
            · exact ⟨htr, o, by simp, hd⟩
            · exact ⟨h1, o', by simp [ho'], h2⟩
          · rintro ⟨h1, o', ho', h2⟩
            rcases List.mem_cons.1 ho' with rfl | ho'
            · rw [hd] at h2; exact .inl (Option.some.inj h2).symm
            · exact .inr ⟨h1, o', ho', h2⟩
      · rename_i htr
        rw [ih]
        constructor
        · rintro ⟨h1, o', ho', h2⟩; exact ⟨h1, o', by simp [ho'], h2⟩
        · rintro ⟨h1, o', ho', h2⟩
          rcases List.mem_cons.1 ho' with rfl | ho'
          · rw [hd] at h2; obtain rfl := Option.some.inj h2
            exact absurd h1 htr
          · exact ⟨h1, o', ho', h2⟩
    · rename_i hd
      rw [ih]
      constructor
      · rintro ⟨h1, o', ho', h2⟩; exact ⟨h1, o', by simp [ho'], h2⟩
      · rintro ⟨h1, o', ho', h2⟩
        rcases List.mem_cons.1 ho' with rfl | ho'
        · rw [hd] at h2; cases h2
        · exact ⟨h1, o', ho', h2⟩

/-- The slots after a region. -/
def outFr (fr0 : Tr GV) (env : Env) : List Nat → Tr GV → Tr GV
  | [], fr => fr
  | t :: outs, fr => outFr fr0 env outs (Tr.set .bad (elook t fr0 env) (Pos.of t) fr)
theorem putOuts_eq (fr0 : Tr GV) (env : Env) (h : Heap) (k : Tr GV → Heap → R) : ∀ (outs : List Nat) (fr : Tr GV), putOuts fr0 env h k outs fr = k (outFr fr0 env outs fr) h
  | [], fr => rfl
  | t :: outs, fr => by
    show forceG (elook t fr0 env) (fun v => Tr.setK .bad v (Pos.of t) fr fun fr => putOuts fr0 env h k outs fr) = _
    rw [forceG_eq, Tr.setK_eq, putOuts_eq fr0 env h k outs]
    rfl
theorem outFr_get (fr0 : Tr GV) (env : Env) (t : Nat) : ∀ (outs : List Nat) (fr : Tr GV), Tr.get .bad (Pos.of t) (outFr fr0 env outs fr) = if t ∈ outs then elook t fr0 env else Tr.get .bad (Pos.of t) fr
  | [], fr => by simp [outFr]
  | s :: outs, fr => by
    rw [outFr, outFr_get fr0 env t outs]
    by_cases h1 : t ∈ outs
    · rw [if_pos h1, if_pos (by simp [h1])]
    · rw [if_neg h1]
      by_cases h2 : t = s
      · subst h2; rw [Tr.get_set, if_pos (by simp)]
      · rw [Tr.get_set_ne _ _ _ _ _ (fun e => h2 (Pos.of_inj e)), if_neg (by simp [h1, h2])]

theorem outs_ok (hf : FrRel c φ fr a) {φ' : Phi} {a' : Act} (he : EnvRel φ' fr env a') (hd : EnvDom ops.toList env) (hok : ∀ o ∈ ops.toList, dstOk c o.dst = true) (hs : a'.tmps.size = c.nt) (hdf : a'.defers = []) :
    FrRel c φ' (outFr fr env (outsOf c ops.toList) fr) a' where
  slot t := by
    rw [outFr_get]
    split
    · exact he t
    · rename_i hn
      by_cases hm : ∃ o ∈ ops.toList, o.dst = some t
      · obtain ⟨o, ho, hot⟩ := hm
        have htr : c.tr.contains t = false := by
          cases e : c.tr.contains t with
          | false => rfl
          | true => exact absurd ((outs_mem c _ t).2 ⟨e, o, ho, hot⟩) hn
        have := hok o ho
        rw [hot] at this
        simp only [dstOk, htr, Bool.false_or, Bool.and_eq_true, Bool.not_eq_true'] at this
        have hge : c.nargs ≤ t := by
          rcases Nat.lt_or_ge t c.nargs with h1 | h1
          · have h2 : Nat.blt t c.nargs = true := by simpa [Nat.blt_eq] using h1
            rw [h2] at this; cases this.2
          · exact h1
        rw [hf.bad t htr hge]; trivial
      · have := he t
        rw [elook_dom fun p hp e => hm (by obtain ⟨o, ho, h2⟩ := hd p hp; exact ⟨o, ho, by rw [h2, e]⟩)] at this
        exact this
  bad t h1 h2 := by
    rw [outFr_get, if_neg fun hm => by rw [((outs_mem c _ t).1 hm).1] at h1; cases h1]
    exact hf.bad t h1 h2
  size := hs
  defers := hdf

theorem compOpers_cons {l : List Oper} {gs : List GOper} (hc : compOpers P c ops (o :: l) = some gs) : ∃ g gs', gs = g :: gs' ∧ compOper P c ops o = some g ∧ compOpers P c ops l = some gs' := by
  unfold compOpers at hc
  split at hc <;> try cases hc
  rename_i g gs' h1 h2
  exact ⟨g, gs', rfl, h1, h2⟩
theorem compOpers_dst : ∀ {l : List Oper} {gs : List GOper}, compOpers P c ops l = some gs → ∀ o ∈ l, dstOk c o.dst = true
  | [], _, _, o, ho => by cases ho
  | o :: l, gs, hc, o', ho => by
    obtain ⟨g, gs', rfl, h1, h2⟩ := compOpers_cons hc
    rcases List.mem_cons.1 ho with rfl | ho
    · exact (compOper_some h1).1
    · exact compOpers_dst h2 o' ho
theorem dst_lt {d : Nat} (hok : dstOk c (some d) = true) : d < c.nt := by
  simp only [dstOk, Bool.and_eq_true] at hok
  exact nat_blt hok.1

/-- A region's operations, from number i on. -/
theorem regRun_ok {call : CallT} (hcall : CallOk P call) {outs : List Nat} {k : Tr GV → Heap → R} {r : Out} : ∀ (l : List Oper) (gs : List GOper) (env : Env) (h : Heap) (i : Nat), ops.toList.drop i = l → EnvDom ops.toList env → compOpers P c ops l = some gs →
    regRun call fr outs k gs env h = some r → ∃ env' h', k (outFr fr env' outs fr) h' = some r ∧ EnvDom ops.toList env' ∧
      ∀ φ a w, EnvRel φ fr env a → HRel φ h w → a.tmps.size = c.nt → a.defers = [] → ∀ Q, (∀ φ' a' w', EnvRel φ' fr env' a' → HRel φ' h' w' → Fr φ h w φ' h' w' → a'.tmps.size = c.nt → a'.defers = [] → Q .normal a' w') → wpOps P ops Q (List.range' i l.length) a w := by
  intro l
  induction l with
  | nil =>
    intro gs env h i hl hd hc hg
    obtain rfl : gs = [] := by cases hc; rfl
    have hg1 : putOuts fr env h k outs fr = some r := hg
    rw [putOuts_eq] at hg1
    exact ⟨env, h, hg1, hd, fun φ a w he H hs hdf Q hq => hq φ a w he H (.refl _ _ _) hs hdf⟩
  | cons o l ih =>
    intro gs env h i hl hd hc hg
    obtain ⟨g, gs', rfl, h1, h2⟩ := compOpers_cons hc
    have hg1 : guardO g.g (fun t => elook t fr env) h (fun k => gop call (rho fr env) h k g.op) (fun v h => regRun call fr outs k gs' (put g.dst v env) h) = some r := hg
    obtain ⟨v, h', h3, hdoes⟩ := oper_ok hcall h1 hg1
    obtain ⟨hdst, hgd, -, -⟩ := compOper_some h1
    have hlt : i < ops.toList.length := by
      rcases Nat.lt_or_ge i ops.toList.length with h | h
      · exact h
      · rw [List.drop_eq_nil_of_le h] at hl; cases hl
    rw [List.drop_eq_getElem_cons hlt] at hl
    obtain ⟨ho, hl'⟩ := List.cons.inj hl
    have hio : ops[i]? = some o := by rw [← ho]; simp [Array.getElem?_eq_getElem (show i < ops.size by simpa using hlt)]
    have hmem : o ∈ ops.toList := by rw [← ho]; exact List.getElem_mem _
    have hd' : EnvDom ops.toList (put g.dst v env) := by
      rw [hgd]
      cases hod : o.dst with
      | none => exact hd
      | some d =>
        intro p hp
        rcases List.mem_cons.1 hp with rfl | hp
        · exact ⟨o, hmem, hod⟩
        · exact hd p hp
    obtain ⟨env', h'', h4, hd'', hfin⟩ := ih gs' _ h' (i + 1) hl' hd' h2 h3
    refine ⟨env', h'', h4, hd'', fun φ a w he H hs hdf Q hq => ?_⟩
    rw [List.length_cons, List.range'_succ]
    simp only [wpOps, hio]
    refine hdoes φ a w he H _ Q fun φ' u w' hr H' F' => ?_
    refine hfin φ' _ w' ?_ H' (by rw [put_size]; exact hs) (by rw [put_defers']; exact hdf) Q fun φ'' a' w'' he' H'' F'' hs' hdf' => hq φ'' a' w'' he' H'' (F'.trans F'') hs' hdf'
    rw [hgd]
    refine (he.mono F'.le).put hr fun d hd => ?_
    rw [hs]; rw [hd] at hdst; exact dst_lt hdst

/-- A region in the order of the text. -/
theorem region_ok {call : CallT} (hcall : CallOk P call) {gs : List GOper} {k : Tr GV → Heap → R} {r : Out} {id : Nat} (hc : compOpers P c ops ops.toList = some gs) (hg : regRun call fr (outsOf c ops.toList) k gs [] h = some r) :
    ∃ fr' h', k fr' h' = some r ∧ ∀ φ a w, FrRel c φ fr a → HRel φ h w → ∀ Q, (∀ φ' a' w', FrRel c φ' fr' a' → HRel φ' h' w' → Fr φ h w φ' h' w' → Q .normal a' w') → (Code.region id ops false).wp P Q a w := by
  obtain ⟨env', h', h1, hd, hfin⟩ := regRun_ok hcall _ gs [] h 0 rfl (fun p hp => by cases hp) hc hg
  refine ⟨_, h', h1, fun φ a w hf H Q hq => wp_region ?_⟩
  rw [List.range_eq_range', ← Array.length_toList]
  exact hfin φ a w hf.toEnv H hf.size hf.defers Q fun φ' a' w' he H' F' hs hdf => hq φ' a' w' (outs_ok hf he hd (compOpers_dst hc) hs hdf) H' F'

end
end
end Go.Ev
