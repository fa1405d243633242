/- Regions that draw: the run in the order of the text, as sequences. -/
import Derived.Test.YtbofkbhobcahiaaGreatEvReg
namespace Go.Ev
noncomputable section
section
variable {P : Program} {φ : Phi} {a : Act} {o : Oper} {h : Heap} {w : World} {c : Cx} {ops : Array Oper} {fr : Tr GV} {env : Env}

/-- One operation of the ghost's run. -/
def StepFact (P : Program) (ops : Array Oper) (fr : Tr GV) (o : Oper) (g : GOper) (env : Env) (h : Heap) (v : GV) (env' : Env) (h' : Heap) : Prop :=
  env' = put o.dst v env ∧
  ((v = undefG ∧ h' = h ∧ ∀ φ a, Looks φ fr env a ops o → Region.wanted o (yielded ops a.tmps) = false) ∨
   ((∀ φ a, Looks φ fr env a ops o → Region.wanted o (yielded ops a.tmps) = true) ∧ RunFact (rho fr env) h v h' g.op ∧ Does P o (rho fr env) h v h'))

theorem trace_ok {call : CallT} (hcall : CallOk P call) {outs : List Nat} {cks : List (Nat × Nat × ROp)} {k : Tr GV → Heap → R} {r : Out} : ∀ (l : List Oper) (gs : List GOper) (env : Env) (hs : List Heap) (h : Heap) (i : Nat), compOpers P c ops l = some gs →
    regRunD call fr outs cks k gs env hs h = some r → ∃ (E : Nat → Env) (H : Nat → Heap) (V : Nat → GV), E i = env ∧ H i = h ∧
      (∀ m o g, l[m]? = some o → gs[m]? = some g → StepFact P ops fr o g (E (i + m)) (H (i + m)) (V (i + m)) (E (i + m + 1)) (H (i + m + 1))) ∧
      ∃ hsE, chks fr (E (i + l.length)) hsE (putOuts fr (E (i + l.length)) (H (i + l.length)) k outs fr) cks = some r ∧ ∀ j, nthH j hsE = if j ≤ l.length then H (i + l.length - j) else nthH (j - l.length - 1) hs := by
  intro l
  induction l with
  | nil =>
    intro gs env hs h i hc hg
    obtain rfl : gs = [] := by cases hc; rfl
    refine ⟨fun _ => env, fun _ => h, fun _ => undefG, rfl, rfl, fun m o g ho => by simp at ho, h :: hs, hg, fun j => ?_⟩
    cases j with
    | zero => rfl
    | succ j => rw [if_neg (by simp)]; rfl
  | cons o l ih =>
    intro gs env hs h i hc hg
    obtain ⟨g, gs', rfl, h1, h2⟩ := compOpers_cons hc
    have hg1 : guardO g.g (fun t => elook t fr env) h (fun k => gop call (rho fr env) h k g.op) (fun v h' => regRunD call fr outs cks k gs' (put g.dst v env) (h :: hs) h') = some r := hg
    obtain ⟨-, hgd, h3, h4⟩ := compOper_some h1
    have key : ∃ v h', regRunD call fr outs cks k gs' (put g.dst v env) (h :: hs) h' = some r ∧ StepFact P ops fr o g env h v (put g.dst v env) h' := by
      rcases guard_ok h3 hg1 with ⟨h5, h6⟩ | ⟨h5, h6⟩
      · obtain ⟨v, h', h7, hrf, hdoes⟩ := gop_ok hcall h4 h5
        exact ⟨v, h', h7, by rw [hgd], .inr ⟨h6, hrf, hdoes⟩⟩
      · exact ⟨undefG, h, h5, by rw [hgd], .inl ⟨rfl, rfl, h6⟩⟩
    obtain ⟨v, h', h5, hstep⟩ := key
    obtain ⟨E, H, V, hE, hH, hsteps, hsE, hck, hnth⟩ := ih gs' _ _ h' (i + 1) h2 h5
    have ef : ∀ {α : Type} (F : Nat → α) (x : α) (m : Nat), i < m → (if m = i then x else F m) = F m := fun F x m hm => by rw [if_neg (by omega)]
    refine ⟨fun m => if m = i then env else E m, fun m => if m = i then h else H m, fun m => if m = i then v else V m, by simp, by simp, ?_, hsE, ?_, ?_⟩
    · intro m o' g' ho hg'
      cases m with
      | zero =>
        simp only [List.getElem?_cons_zero, Option.some.injEq] at ho hg'
        subst ho hg'
        simp only [Nat.add_zero, if_true]
        rw [ef E _ _ (by omega), ef H _ _ (by omega), hE, hH]
        exact hstep
      | succ m =>
        simp only [List.getElem?_cons_succ] at ho hg'
        have := hsteps m o' g' ho hg'
        simp only
        rw [ef E _ _ (by omega), ef H _ _ (by omega), ef V _ _ (by omega), ef E _ _ (by omega), ef H _ _ (by omega)]
        rw [show i + (m + 1) = i + 1 + m by omega]
        exact this
    · simp only [List.length_cons]
      rw [ef E _ _ (by omega), ef H _ _ (by omega), show i + (l.length + 1) = i + 1 + l.length by omega]
      exact hck
    · intro j
      rw [hnth j]
      simp only [List.length_cons]
      by_cases h6 : j ≤ l.length
      · rw [if_pos h6, if_pos (by omega), ef H _ _ (by omega), show i + (l.length + 1) - j = i + 1 + l.length - j by omega]
      · rw [if_neg h6]
        by_cases h7 : j = l.length + 1
        · subst h7
          rw [if_pos (Nat.le_refl _), show l.length + 1 - l.length - 1 = 0 by omega, show i + (l.length + 1) - (l.length + 1) = i by omega, if_pos rfl]; rfl
        · rw [if_neg (by omega), show j - l.length - 1 = (j - (l.length + 1) - 1) + 1 by omega]; rfl

/-- A look that was taken again. -/
theorem chks_ok {fr : Tr GV} {env : Env} {hs : List Heap} {k : R} {r : Out} : ∀ {cks : List (Nat × Nat × ROp)}, chks fr env hs k cks = some r → k = some r ∧ ∀ t j o, (t, j, o) ∈ cks → (∃ l, elook t fr env = .tup l) ∨ ∃ u, rop (rho fr env) (nthH j hs) o = some u ∧ same u (elook t fr env) = true
  | [], h => ⟨h, fun t j o hm => by cases hm⟩
  | (t, j, o) :: cks, h => by
    have h1 : chk (elook t fr env) (rop (rho fr env) (nthH j hs) o) (chks fr env hs k cks) = some r := h
    have h2 : chks fr env hs k cks = some r ∧ ((∃ l, elook t fr env = .tup l) ∨ ∃ u, rop (rho fr env) (nthH j hs) o = some u ∧ same u (elook t fr env) = true) := by
      unfold chk at h1
      split at h1
      · rename_i l hl; exact ⟨h1, .inl ⟨l, hl⟩⟩
      · obtain ⟨u, h3, h4⟩ := obind_some h1
        obtain ⟨h5, h6⟩ := ifb_some h4
        exact ⟨h6, .inr ⟨u, h3, h5⟩⟩
    obtain ⟨h3, h4⟩ := chks_ok h2.1
    refine ⟨h3, fun t' j' o' hm => ?_⟩
    rcases List.mem_cons.1 hm with e | hm
    · cases e; exact h2.2
    · exact h4 t' j' o' hm

theorem ifb_and {a b : Bool} (h : ifb a b false = true) : a = true ∧ b = true := by cases a <;> simp_all [ifb]
theorem sameV_eq {u v : GV} (h : sameV u v = true) : u = v := by
  cases u <;> cases v <;> simp only [sameV, Bool.false_eq_true] at h <;> try rfl
  · rename_i a b; cases a <;> cases b <;> first | rfl | cases h
  · obtain ⟨h1, h2⟩ := ifb_and h
    rw [(ikEq_iff _ _).1 h1]
    rename_i k x k' y
    cases x <;> cases y <;> first
      | cases h2
      | (rw [nat_beq h2])
  · obtain ⟨h1, h2⟩ := ifb_and h
    rw [nat_beq h1, nat_beq h2]
  · obtain ⟨h1, h2⟩ := ifb_and h
    rw [Pos.nat_inj (nat_beq h1), nat_beq h2]
  · obtain ⟨h1, h2⟩ := ifb_and h
    obtain ⟨h2, h3⟩ := ifb_and h2
    obtain ⟨h3, h4⟩ := ifb_and h3
    obtain ⟨h4, h5⟩ := ifb_and h4
    rw [Pos.nat_inj (nat_beq h1), nat_beq h2, nat_beq h3, nat_beq h4, nat_beq h5]
  · rw [Pos.nat_inj (nat_beq h)]
theorem sameL_eq : ∀ {u v : List GV}, sameL u v = true → u = v
  | [], [], _ => rfl
  | [], _ :: _, h => by cases h
  | _ :: _, [], h => by cases h
  | a :: u, b :: v, h => by
    obtain ⟨h1, h2⟩ := ifb_and h
    rw [sameV_eq h1, sameL_eq h2]
theorem same_eq {u v : GV} (h : same u v = true) : u = v := by
  unfold same at h
  split at h
  · rw [sameL_eq h]
  · exact sameV_eq h

/-- A run of an operation that cannot go wrong comes to an end. -/
theorem wp_exists {a : Act} {w : World} {next : Act → World → Prop} (h : o.wp P a w next fun _ _ _ => False) : ∃ a' w', next a' w' := by
  unfold Oper.wp at h
  unfold Oper.upon at h
  split at h
  · exact ⟨_, _, h⟩
  · exact ⟨_, _, h⟩
  · exact ⟨_, _, h⟩
  · obtain ⟨e, w', f, hr, -⟩ := h []
    cases e with
    | returned v => exact ⟨_, _, hr⟩
    | panicked c => exact hr.elim
    | outgrown => obtain ⟨_, _, hq⟩ := hr; exact hq.elim
  · obtain ⟨v, w', hr, -⟩ := h default []
    exact ⟨_, _, hr⟩
  · exact h.elim
  · exact h.elim

end
end
end Go.Ev
