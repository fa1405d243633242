/- Code, functions. -/
import Derived.Test.YtbofkbhobcahiaaGreatEvDraw
import Derived.Scope
namespace Go.Ev
noncomputable section
section
variable {P : Program}

/-- The way out, from its number. -/
def exitOf : Nat → Exit
  | 0 => .normal
  | 1 => .ret
  | n + 2 => .exit n

/-- What the table says holds of the program. -/
def TabOk (P : Program) (T : Tr GTab) : Prop := ∀ p, match Tr.get .none p T with
  | .none => True
  | .fn g => ∃ f fn nargs tr, p = Pos.of f ∧ P.funcs[f]? = some fn ∧ Comp P fn nargs tr g
  | .prim f => ∀ args h v h', f args h = some (v, h') → Gives P p args h v h'

/-- A loop, entered. -/
def LoopIn (P : Program) (c : Code) (Q : Exit → Act → World → Prop) (a : Act) (w : World) : Prop :=
  ∀ (b : Frame) (k : List Item) (cs : List Frame), ∃ e a' w', Q e a' w' ∧ Arrives P (lone (b.at a (.code c :: .inLoop c :: k)) cs w) b k cs e a' w'
theorem loop_of_in {c : Code} {Q : Exit → Act → World → Prop} {a : Act} {w : World} (h : LoopIn P c Q a w) : (Code.loop c).wp P Q a w := fun b k cs =>
  let ⟨e, a', w', q, r⟩ := h b k cs; ⟨e, a', w', q, .of_steps (.one step_loop) r⟩
theorem loopIn_step {c : Code} {Q : Exit → Act → World → Prop} {a : Act} {w : World} (h : c.wp P (Exit.then (LoopIn P c Q) Q) a w) : LoopIn P c Q a w := by
  intro b k cs
  obtain ⟨e, a₁, w₁, hq, harr⟩ := h b (.inLoop c :: k) cs
  cases e with
  | normal =>
    obtain ⟨e₂, a₂, w₂, hq₂, harr₂⟩ := hq b k cs
    exact ⟨e₂, a₂, w₂, hq₂, .of_steps (Steps.trans harr (.one step_inLoop)) harr₂⟩
  | exit id => exact ⟨_, a₁, w₁, hq, .pass (x := .inLoop c) rfl (fun _ _ => .inl (by simp)) harr⟩
  | goto l => exact ⟨_, a₁, w₁, hq, .pass (x := .inLoop c) rfl (fun _ _ => .inl (by simp)) harr⟩
  | ret => exact ⟨_, a₁, w₁, hq, .pass (x := .inLoop c) rfl (fun _ _ => .inl (by simp)) harr⟩
  | panic ch => exact ⟨_, a₁, w₁, hq, .pass (x := .inLoop c) rfl (fun _ _ => .inl (by simp)) harr⟩
  | outgrown => exact ⟨_, a₁, w₁, hq, .pass (x := .inLoop c) rfl (fun _ _ => .inl (by simp)) harr⟩
/-- Code's wp; a loop's from inside. -/
def Cwp (P : Program) (c : Code) (Q : Exit → Act → World → Prop) (a : Act) (w : World) : Prop :=
  match c with
  | .loop c => LoopIn P c Q a w
  | c => c.wp P Q a w
theorem Cwp.wp {c : Code} {Q : Exit → Act → World → Prop} {a : Act} {w : World} (h : Cwp P c Q a w) : c.wp P Q a w := by
  cases c with
  | loop c => exact loop_of_in h
  | _ => exact h

/-- What code does, seen from the ghost. -/
def CDoes (P : Program) (cx : Cx) (code : Code) (fr : Tr GV) (h : Heap) (e : Nat) (fr' : Tr GV) (h' : Heap) : Prop :=
  ∀ φ a w, FrRel cx φ fr a → HRel φ h w → ∀ Q, (∀ φ' a' w', FrRel cx φ' fr' a' → HRel φ' h' w' → Fr φ h w φ' h' w' → Q (exitOf e) a' w') → Cwp P code Q a w
def CodeOk (P : Program) (cx : Cx) (ex : GCode → Tr GV → Heap → K → R) (code : Code) : Prop :=
  ∀ g fr h k r, compCode P cx code = some g → ex g fr h k = some r → ∃ e fr' h', k e fr' h' = some r ∧ CDoes P cx code fr h e fr' h'

theorem res1_ok {cx : Cx} {x : ResultVar} {g : GRes} {fr : Tr GV} {h : Heap} {v : GV} (hc : compRes P x = some g) (hg : res1 fr h g = some v) {φ : Phi} {a : Act} {w : World} (hf : FrRel cx φ fr a) (H : HRel φ h w) :
    ∃ u, (match x with | .tmp t => pure (a.tmps.getD t undef) | .cell s t => do loadVar t (← asAddr (a.tmps.getD s undef)) : Sem Value).run P w = .ok u w ∧ rel φ v u := by
  have hptr : ∀ {t : TypeId} {p : Pos} {q : Nat} {u r : Value} {w' : World}, rel φ (.ptr p q) u → (Instr.loadAt t u).run P w = .ok r w' → (do loadVar t (← asAddr u) : Sem Value).run P w = .ok r w' := by
    rintro t p q u r w' ⟨L, -, rfl⟩ hr
    simpa only [Instr.loadAt, Sem.run_bind, Instr.sureAddr, Sem.run_pure, Result.andThen_ok, asAddr] using hr
  cases x with
  | tmp t =>
    simp only [compRes, Option.some.injEq] at hc
    subst hc
    simp only [res1, forceG_eq, Option.some.injEq] at hg
    subst hg
    exact ⟨_, rfl, hf.slot t⟩
  | cell s t =>
    simp only [compRes] at hc
    split at hc <;> try cases hc
    · rename_i n ha hs
      have hg1 : rLdN n (Tr.get .bad (Pos.of s) fr) h = some v := hg
      obtain ⟨p, q, he, -⟩ := asPtr_some hg1
      have hx := hf.slot s
      obtain ⟨u, hr, hrel⟩ := ldN_ok (P := P) H hg1 hx ha hs
      rw [he] at hx
      exact ⟨u, hptr hx hr, hrel⟩
    · rename_i n ha hs
      have hg1 : rLd1 (Tr.get .bad (Pos.of s) fr) h = some v := hg
      obtain ⟨p, q, he, -⟩ := asPtr_some hg1
      have hx := hf.slot s
      obtain ⟨u, hr, hrel⟩ := ld1_ok (P := P) H hg1 hx ha
      rw [he] at hx
      exact ⟨u, hptr hx hr, hrel⟩

theorem isA_relA {φ : Phi} {v : GV} {u : Value} (hv : v.isA = true) (hr : rel φ v u) : relA φ v u := by cases v <;> first | exact hr | cases hv
theorem ress_ok {cx : Cx} {fr : Tr GV} {h : Heap} {r : Out} : ∀ {xs : List ResultVar} {gs : List GRes} {k : List GV → R}, compRess P xs = some gs → ress fr h k gs = some r → ∃ vs, k vs = some r ∧ vs.length = gs.length ∧
    ∀ φ (a : Act) w, FrRel cx φ fr a → HRel φ h w → ∃ us : List Value, (xs.mapM fun x => (match x with | .tmp t => pure (a.tmps.getD t undef) | .cell s t => do loadVar t (← asAddr (a.tmps.getD s undef)) : Sem Value)).run P w = .ok us w ∧ All2 (relA φ) vs us
  | [], gs, k, hc, hg => by
    simp only [compRess, Option.some.injEq] at hc
    subst hc
    exact ⟨[], hg, rfl, fun φ a w _ _ => ⟨[], by simp, trivial⟩⟩
  | x :: xs, gs, k, hc, hg => by
    simp only [compRess] at hc
    split at hc <;> try cases hc
    rename_i y ys h1 h2
    obtain ⟨v, h3, h4⟩ := obind_some hg
    obtain ⟨h5, h6⟩ := ifb_some h4
    obtain ⟨vs, h7, h8, h9⟩ := ress_ok (cx := cx) h2 h6
    refine ⟨v :: vs, h7, by simp [h8], fun φ a w hf H => ?_⟩
    obtain ⟨u, hu, hrel⟩ := res1_ok h1 h3 hf H
    obtain ⟨us, hus, hall⟩ := h9 φ a w hf H
    refine ⟨u :: us, ?_, isA_relA h5 hrel, hall⟩
    rw [List.mapM_cons, Sem.run_bind, hu, Result.andThen_ok, Sem.run_bind, hus]
    rfl

theorem results_ok {cx : Cx} {fn : Func} {gs : List GRes} {fr : Tr GV} {h : Heap} {k : GV → Heap → R} {r : Out} (hc : compRess P fn.results.toList = some gs) (hg : resF gs fr h k = some r) :
    ∃ v, k v h = some r ∧ ∀ φ (a : Act) w, FrRel cx φ fr a → HRel φ h w → ∃ u, (results fn a.tmps).run P w = .ok u w ∧ rel φ v u := by
  have hlen : ∀ {xs : List ResultVar} {gs : List GRes}, compRess P xs = some gs → xs.length = gs.length := by
    intro xs
    induction xs with
    | nil => intro gs h; simp only [compRess, Option.some.injEq] at h; subst h; rfl
    | cons x xs ih =>
      intro gs h
      simp only [compRess] at h
      split at h <;> try cases h
      rename_i y ys h1 h2
      simp [ih h2]
  have hrun : ∀ (a : Act) (w : World) (us : List Value), (fn.results.toList.mapM fun x => (match x with | .tmp t => pure (a.tmps.getD t undef) | .cell s t => do loadVar t (← asAddr (a.tmps.getD s undef)) : Sem Value)).run P w = .ok us w →
      (results fn a.tmps).run P w = .ok (if h : us.toArray.size = 1 then us.toArray[0] else .tuple us.toArray) w := by
    intro a w us hu
    unfold results
    rw [Array.mapM_eq_mapM_toList, Sem.run_bind, Sem.run_map]
    erw [hu]
    rfl
  unfold resF at hg
  split at hg
  · rename_i x
    have h1 : ∃ v, res1 fr h x = some v ∧ k v h = some r := obind_some hg
    obtain ⟨v, h2, h3⟩ := h1
    refine ⟨v, h3, fun φ a w hf H => ?_⟩
    match hl : fn.results.toList, hc, hlen hc with
    | [y], hc, _ =>
      simp only [compRess] at hc
      split at hc <;> try cases hc
      rename_i z zs h4 h5
      obtain ⟨u, hu, hrel⟩ := res1_ok h4 h2 hf H
      refine ⟨u, ?_, hrel⟩
      have := hrun a w [u] (by rw [hl, List.mapM_cons, Sem.run_bind, hu]; rfl)
      simpa using this
  · rename_i hne
    obtain ⟨vs, h2, h3, h4⟩ := ress_ok (cx := cx) hc hg
    refine ⟨.tup vs, h2, fun φ a w hf H => ?_⟩
    obtain ⟨us, hus, hall⟩ := h4 φ a w hf H
    refine ⟨.tuple us.toArray, ?_, ⟨us.toArray, rfl, by simpa using hall⟩⟩
    have hn : us.length ≠ 1 := by
      rw [← hall.length, h3]
      intro e
      obtain ⟨x, hx⟩ := List.length_eq_one_iff.1 e
      exact hne x hx
    rw [hrun a w us hus]
    simp [hn]

/-- A call's slots. -/
def setArgs : List GV → Pos → Tr GV → Tr GV
  | [], _, fr => fr
  | v :: l, p, fr => setArgs l p.succ (Tr.set .bad v p fr)
theorem initFr_eq : ∀ (args : List GV) (p : Pos) (fr : Tr GV) (k : Tr GV → R), initFr args p fr k = k (setArgs args p fr)
  | [], p, fr, k => rfl
  | v :: l, p, fr, k => by
    show forceG v (fun v => Tr.setK .bad v p fr fun fr => initFr l p.succ fr k) = _
    rw [forceG_eq, Tr.setK_eq, initFr_eq l]; rfl
theorem setArgs_get : ∀ (args : List GV) (i : Nat) (fr : Tr GV) (t : Nat), Tr.get .bad (Pos.of t) (setArgs args (Pos.of i) fr) = if i ≤ t then (args[t - i]?).getD (Tr.get .bad (Pos.of t) fr) else Tr.get .bad (Pos.of t) fr
  | [], i, fr, t => by simp [setArgs]
  | v :: l, i, fr, t => by
    have := setArgs_get l (i + 1) (Tr.set .bad v (Pos.of i) fr) t
    show Tr.get .bad (Pos.of t) (setArgs l (Pos.of (i + 1)) (Tr.set .bad v (Pos.of i) fr)) = _
    rw [this]
    by_cases h1 : t = i
    · subst h1
      rw [if_neg (by omega), if_pos (Nat.le_refl _), Tr.get_set]; simp
    · have h2 : Tr.get .bad (Pos.of t) (Tr.set .bad v (Pos.of i) fr) = Tr.get .bad (Pos.of t) fr := Tr.get_set_ne _ _ _ _ _ (fun e => h1 (Pos.of_inj e))
      rw [h2]
      by_cases h3 : i + 1 ≤ t
      · rw [if_pos h3, if_pos (by omega), show t - i = (t - (i + 1)) + 1 by omega, List.getElem?_cons_succ]
      · rw [if_neg h3, if_neg (by omega)]

theorem start_rel {args : List GV} {vs : Array Value} {φ : Phi} {c : Cx} (hall : All2 (rel φ) args vs.toList) (h1 : args.length ≤ c.nargs) (h2 : c.nargs ≤ c.nt) :
    FrRel c φ (setArgs args .h .leaf) { tmps := vs ++ Array.replicate (c.nt - vs.size) undef, defers := [] } where
  slot t := by
    have := setArgs_get args 0 .leaf t
    rw [show Pos.h = Pos.of 0 from rfl, this, if_pos (Nat.zero_le _), Nat.sub_zero, Tr.get_leaf]
    cases ht : args[t]? with
    | none => trivial
    | some g =>
      obtain ⟨v, hv, hr⟩ := hall.get t g ht
      have hv' : vs[t]? = some v := by simpa using hv
      have hlt : t < vs.size := by
        rcases Nat.lt_or_ge t vs.size with h | h
        · exact h
        · rw [Array.getElem?_eq_none h] at hv'; cases hv'
      have : (vs ++ Array.replicate (c.nt - vs.size) undef).getD t undef = v := by
        rw [Array.getD_eq_getD_getElem?, Array.getElem?_append_left hlt, hv']; rfl
      simp only [this]
      exact hr
  bad t _ ht := by
    have := setArgs_get args 0 .leaf t
    rw [show Pos.h = Pos.of 0 from rfl, this, if_pos (Nat.zero_le _), Nat.sub_zero, Tr.get_leaf, List.getElem?_eq_none (by omega)]; rfl
  size := by
    have := hall.length
    simp only [Array.length_toList] at this
    simp; omega
  defers := rfl

theorem callT_ok {T : Tr GTab} (hT : TabOk P T) {ex : GCode → Tr GV → Heap → K → R} (hex : ∀ cx code, CodeOk P cx ex code) : CallOk P (callT T ex) := by
  intro p args h k r hg
  unfold callT at hg
  have hTp := hT p
  cases hget : Tr.get GTab.none p T with
  | none => rw [hget] at hg; cases hg
  | prim f =>
    rw [hget] at hg hTp
    obtain ⟨v, h', h1, h2⟩ := obind2_some hg
    exact ⟨v, h', h2, hTp args h v h' h1⟩
  | fn g =>
    rw [hget] at hg hTp
    obtain ⟨f, fn, nargs, tr, rfl, hf, c, rs, hb, hname, hn, hcc, hcr, hres, hna⟩ := hTp
    obtain ⟨n, body, res⟩ := g
    simp only at hcc hres hna
    subst hres hna
    obtain ⟨hlen, hg1⟩ := ifb_some hg
    rw [initFr_eq] at hg1
    obtain ⟨e, fr', h', h1, hdoes⟩ := hex ⟨n, fn.ntmps, tr⟩ c _ _ _ _ _ hcc hg1
    obtain ⟨he, h2⟩ := ifb_some h1
    obtain ⟨v, h3, hrun⟩ := results_ok (cx := ⟨n, fn.ntmps, tr⟩) hcr h2
    refine ⟨v, h', h3, fun f' vs φ w hff hall H => ?_⟩
    obtain rfl : f = f' := Pos.of_inj hff
    refine ⟨⟨fn, hf, by simp [hb], hname⟩, calls_of_wp hf hb (hdoes φ _ w (start_rel (c := ⟨n, fn.ntmps, tr⟩) hall (nat_ble hlen) hn) H _ fun φ' a' w' hfr H' F' => ?_).wp⟩
    obtain ⟨u, hu, hrel⟩ := hrun φ' a' w' hfr H'
    have he := nat_ble he
    match e, he with
    | 0, _ => exact ⟨hfr.defers, u, hu, u, φ', rfl, hrel, H', F'⟩
    | 1, _ => exact ⟨hfr.defers, u, hu, u, φ', rfl, hrel, H', F'⟩

theorem noGoto_exit {Q : Exit → Act → World → Prop} (e : Nat) {a : Act} {w : World} (h : Q (exitOf e) a w) : Exit.noGoto Q (exitOf e) a w := by
  match e with
  | 0 => exact h
  | 1 => exact h
  | n + 2 => exact h

theorem code_ok (hm : P.follows .mixedOrders = true) {T : Tr GTab} (hT : TabOk P T) : ∀ (n : Nat) (cx : Cx) (code : Code), CodeOk P cx (exec T n) code := by
  intro n
  induction n with
  | zero => intro cx code g fr h k r _ hg; cases hg
  | succ n ih =>
    have hcall : CallOk P (callT T (exec T n)) := callT_ok hT ih
    intro cx code
    induction code with
    | skip =>
      intro g fr h k r hc hg
      cases hc
      exact ⟨0, fr, h, hg, fun φ a w hf H Q hq => wp_skip (hq φ a w hf H (.refl _ _ _))⟩
    | label l =>
      intro g fr h k r hc hg
      cases hc
      exact ⟨0, fr, h, hg, fun φ a w hf H Q hq => wp_label (hq φ a w hf H (.refl _ _ _))⟩
    | ret =>
      intro g fr h k r hc hg
      cases hc
      exact ⟨1, fr, h, hg, fun φ a w hf H Q hq => wp_ret (hq φ a w hf H (.refl _ _ _))⟩
    | exit m =>
      intro g fr h k r hc hg
      cases hc
      exact ⟨m + 2, fr, h, hg, fun φ a w hf H Q hq => wp_exit (hq φ a w hf H (.refl _ _ _))⟩
    | seq x y ihx ihy =>
      intro g fr h k r hc hg
      simp only [compCode] at hc
      split at hc <;> try cases hc
      rename_i gx gy h1 h2
      obtain ⟨e1, fr1, hh1, h3, hd1⟩ := ih cx x _ _ _ _ _ h1 hg
      cases e1 with
      | zero =>
        obtain ⟨e2, fr2, hh2, h4, hd2⟩ := ih cx y _ _ _ _ _ h2 h3
        refine ⟨e2, fr2, hh2, h4, fun φ a w hf H Q hq => wp_seq (hd1 φ a w hf H _ fun φ' a' w' hf' H' F' => ?_).wp⟩
        exact (hd2 φ' a' w' hf' H' Q fun φ'' a'' w'' hf'' H'' F'' => hq _ _ _ hf'' H'' (F'.trans F'')).wp
      | succ e1 =>
        refine ⟨e1 + 1, fr1, hh1, h3, fun φ a w hf H Q hq => wp_seq (hd1 φ a w hf H _ fun φ' a' w' hf' H' F' => ?_).wp⟩
        have := hq φ' a' w' hf' H' F'
        cases e1 <;> exact this
    | cond x y z ihy ihz =>
      intro g fr h k r hc hg
      simp only [compCode] at hc
      split at hc <;> try cases hc
      · rename_i t gy gz h1 h2
        have hg1 : (Tr.get .bad (Pos.of t) fr).asBool (fun t => ifb t (exec T n gy fr h k) (exec T n gz fr h k)) = some r := hg
        obtain ⟨b, hb, h3⟩ := asBool_some hg1
        have hval : ∀ φ (a : Act), FrRel cx φ fr a → a.eval (.tmp t) = .bool b := by
          intro φ a hf
          have := hf.slot t
          rw [hb] at this
          exact this
        cases b with
        | true =>
          obtain ⟨e, fr', h', h4, hd⟩ := ih cx y _ _ _ _ _ h1 h3
          exact ⟨e, fr', h', h4, fun φ a w hf H Q hq => wp_cond (hval φ a hf) (hd φ a w hf H Q hq).wp⟩
        | false =>
          obtain ⟨e, fr', h', h4, hd⟩ := ih cx z _ _ _ _ _ h2 h3
          exact ⟨e, fr', h', h4, fun φ a w hf H Q hq => wp_cond (hval φ a hf) (hd φ a w hf H Q hq).wp⟩
      · rename_i b gy gz h1 h2
        cases b with
        | true =>
          obtain ⟨e, fr', h', h4, hd⟩ := ihy _ _ _ _ _ h1 hg
          exact ⟨e, fr', h', h4, fun φ a w hf H Q hq => wp_cond (t := true) rfl (hd φ a w hf H Q hq).wp⟩
        | false =>
          obtain ⟨e, fr', h', h4, hd⟩ := ihz _ _ _ _ _ h2 hg
          exact ⟨e, fr', h', h4, fun φ a w hf H Q hq => wp_cond (t := false) rfl (hd φ a w hf H Q hq).wp⟩
    | block m x ihx =>
      intro g fr h k r hc hg
      obtain ⟨gx, h1, rfl⟩ := map_some hc
      obtain ⟨e1, fr1, hh1, h3, hd1⟩ := ih cx x _ _ _ _ _ h1 hg
      rw [ifb_eq] at h3
      split at h3
      · rename_i he
        have he := nat_beq he
        subst he
        refine ⟨0, fr1, hh1, h3, fun φ a w hf H Q hq => wp_block (hd1 φ a w hf H _ fun φ' a' w' hf' H' F' => ?_).wp⟩
        have := hq φ' a' w' hf' H' F'
        show if m = m then _ else _
        rw [if_pos rfl]; exact this
      · rename_i he
        refine ⟨e1, fr1, hh1, h3, fun φ a w hf H Q hq => wp_block (hd1 φ a w hf H _ fun φ' a' w' hf' H' F' => ?_).wp⟩
        have := hq φ' a' w' hf' H' F'
        match e1, he, this with
        | 0, _, this => exact this
        | 1, _, this => exact this
        | j + 2, he, this =>
          show if j = m then _ else _
          rw [if_neg fun e => he (by subst e; simp)]; exact this
    | loop x ihx =>
      intro g fr h k r hc hg
      obtain ⟨gx, h1, rfl⟩ := map_some hc
      obtain ⟨e1, fr1, hh1, h3, hd1⟩ := ih cx x _ _ _ _ _ h1 hg
      cases e1 with
      | zero =>
        obtain ⟨e2, fr2, hh2, h4, hd2⟩ := ih cx (.loop x) _ _ _ _ _ hc h3
        refine ⟨e2, fr2, hh2, h4, fun φ a w hf H Q hq => loopIn_step (hd1 φ a w hf H _ fun φ' a' w' hf' H' F' => ?_).wp⟩
        exact hd2 φ' a' w' hf' H' Q fun φ'' a'' w'' hf'' H'' F'' => hq _ _ _ hf'' H'' (F'.trans F'')
      | succ e1 =>
        refine ⟨e1 + 1, fr1, hh1, h3, fun φ a w hf H Q hq => loopIn_step (hd1 φ a w hf H _ fun φ' a' w' hf' H' F' => ?_).wp⟩
        have := hq φ' a' w' hf' H' F'
        cases e1 <;> exact this
    | scope x ihx =>
      intro g fr h k r hc hg
      obtain ⟨e, fr', h', h4, hd⟩ := ihx _ _ _ _ _ hc hg
      exact ⟨e, fr', h', h4, fun φ a w hf H Q hq => wp_scope_straight (hd φ a w hf H _ fun φ' a' w' hf' H' F' => noGoto_exit e (hq φ' a' w' hf' H' F')).wp⟩
    | region id ops d =>
      intro g fr h k r hc hg
      obtain ⟨f, h1, rfl⟩ := map_some hc
      unfold compRegion at h1
      split at h1 <;> try cases h1
      rename_i gs hgs
      cases d with
      | true =>
        simp only [if_true] at h1
        split at h1 <;> try cases h1
        rename_i hd
        have hg1 : regRunD (callT T (exec T n)) fr (outsOf cx ops.toList) (cksOf ops.size (ancs ops.toList []) gs) (fun fr h => k 0 fr h) gs [] [] h = some r := hg
        obtain ⟨fr', h', h4, hd⟩ := draw_ok (id := id) hm hcall hgs hd hg1
        exact ⟨0, fr', h', h4, fun φ a w hf H Q hq => hd φ a w hf H Q hq⟩
      | false =>
        simp only [Bool.false_eq_true, if_false, Option.some.injEq] at h1
        subst h1
        have hg1 : regRun (callT T (exec T n)) fr (outsOf cx ops.toList) (fun fr h => k 0 fr h) gs [] h = some r := hg
        obtain ⟨fr', h', h4, hd⟩ := region_ok (id := id) hcall hgs hg1
        exact ⟨0, fr', h', h4, fun φ a w hf H Q hq => hd φ a w hf H Q hq⟩
    | _ => intro g fr h k r hc hg; cases hc

end
end
end Go.Ev
