/- Every operation of the ghost: those that look, those that write, calls. -/
import Derived.Test.YtbofkbhobcahiaaGreatEvNop4
namespace Go.Ev
noncomputable section
section
variable {P : Program} {φ : Phi} {ρ : Opd → GV} {a : Act} {o : Oper} {h : Heap} {w : World}

/-- The program has a function with this number, with a body. -/
def Real (P : Program) (f : Nat) : Prop := ∃ fn, P.funcs[f]? = some fn ∧ fn.body.isNone = false ∧ (fn.name == "runtime.NumGoroutine") = false

/-- What a call of the ghost's says of the program's function. -/
def Gives (P : Program) (p : Pos) (args : List GV) (h : Heap) (v : GV) (h' : Heap) : Prop :=
  ∀ (f : Nat) (vs : Array Value) (φ : Phi) (w : World), p = Pos.of f → All2 (rel φ) args vs.toList → HRel φ h w →
    Real P f ∧ Calls P f vs w fun e w' => ∃ u φ', e = .returned u ∧ rel φ' v u ∧ HRel φ' h' w' ∧ Fr φ h w φ' h' w'
def CallOk (P : Program) (call : CallT) : Prop := ∀ p args h k r, call p args h k = some r → ∃ v h', k v h' = some r ∧ Gives P p args h v h'

/-- An operation, run: its value is v, the heap is h' behind it. -/
def Does (P : Program) (o : Oper) (ρ : Opd → GV) (h : Heap) (v : GV) (h' : Heap) : Prop :=
  ∀ (φ : Phi) (a : Act) (w : World), Opnds φ ρ a o.op → HRel φ h w → ∀ next Q, (∀ φ' u w', rel φ' v u → HRel φ' h' w' → Fr φ h w φ' h' w' → next (a.put o.dst u) w') → o.wp P a w next Q

/-- What the ghost reckoned, by the kind. -/
def RunFact (ρ : Opd → GV) (h : Heap) (v : GV) (h' : Heap) : GOp → Prop
  | .p q => pop ρ q = some v ∧ h' = h
  | .r q => rop ρ h q = some v ∧ h' = h
  | .n q => nop ρ h q = some (v, h')
  | _ => True

theorem callFunc_real {f : Nat} {args : Array Value} (hf : Real P f) : (callFunc f args).run P w = .ok (.enter f args) w := by
  obtain ⟨fn, h1, h2, h3⟩ := hf
  have hp : (program : Sem Program).run P w = .ok P w := rfl
  simp only [callFunc, Sem.run_bind, hp, Result.andThen_ok, h1, h3, Bool.false_eq_true, if_false, h2, Sem.run_pure]

theorem popK_some {k : GV → R} {g : POp} {r : Out} (h : popK ρ k g = some r) : ∃ v, pop ρ g = some v ∧ k v = some r := by
  cases g with
  | mv x => exact ⟨_, rfl, h⟩
  | _ => exact obind_some h
theorem obind2_some {x : Option (GV × Heap)} {k : GV → Heap → R} {r : Out} (h : obind2 x k = some r) : ∃ v h', x = some (v, h') ∧ k v h' = some r := by
  cases x with
  | none => cases h
  | some vh => exact ⟨vh.1, vh.2, rfl, h⟩

theorem vals_all {φ : Phi} {vs : Array Value} {l : List GV} {l' : List Value} (h : All2 (rel φ) l l') (e : vs.toList = l') : All2 (rel φ) l vs.toList := by rw [e]; exact h
theorem relP_rel {φ : Phi} {g : GV} {v : Value} (h : relP φ g v) : rel φ g v := by
  cases g <;> first | exact h.elim | exact h

theorem does_enter {f : Nat} {vs : Array Value} {args : List GV} {v : GV} {h' : Heap} {next : Act → World → Prop} {Q : Exit → Act → World → Prop} (hg : Gives P (Pos.of f) args h v h') (hrun : Real P f → (execOp a.eval o).run P w = .ok (.enter f vs) w)
    (hvs : All2 (rel φ) args vs.toList) (H : HRel φ h w) (hn : ∀ φ' u w', rel φ' v u → HRel φ' h' w' → Fr φ h w φ' h' w' → next (a.put o.dst u) w') : o.wp P a w next Q := by
  obtain ⟨hr, hc⟩ := hg f vs φ w rfl hvs H
  unfold Oper.wp
  rw [hrun hr]
  exact Calls.mono hc fun e w' ⟨u, φ', he, h1, h2, h3⟩ => by subst he; exact hn φ' u w' h1 h2 h3

theorem gop_ok {call : CallT} (hcall : CallOk P call) {g : GOp} {k : GV → Heap → R} {r : Out} (hc : compOp P o = some g) (hg : gop call ρ h k g = some r) : ∃ v h', k v h' = some r ∧ RunFact ρ h v h' g ∧ Does P o ρ h v h' := by
  cases g with
  | p g =>
    have hg1 : popK ρ (fun v => k v h) g = some r := hg
    obtain ⟨v, h1, h2⟩ := popK_some hg1
    refine ⟨v, h, h2, ⟨h1, rfl⟩, fun φ a w ho H next Q hn => ?_⟩
    obtain ⟨u, hr, hrel⟩ := pop_ok hc ho h1 w
    unfold Oper.wp; rw [hr]
    exact hn φ u w hrel H (.refl _ _ _)
  | r g =>
    obtain ⟨v, h1, h2⟩ := obind_some hg
    refine ⟨v, h, h2, ⟨h1, rfl⟩, fun φ a w ho H next Q hn => ?_⟩
    obtain ⟨u, hr, hrel⟩ := rop_ok H hc ho h1
    unfold Oper.wp; rw [hr]
    exact hn φ u w hrel H (.refl _ _ _)
  | w g =>
    obtain ⟨h', h1, h2⟩ := obind_some hg
    refine ⟨undefG, h', h2, trivial, fun φ a w ho H next Q hn => ?_⟩
    obtain ⟨w', hr, H', F'⟩ := wop_ok H hc ho h1
    unfold Oper.wp; rw [hr]
    exact hn φ undef w' ⟨#[], rfl, trivial⟩ H' F'
  | n g =>
    obtain ⟨v, h', h1, h2⟩ := obind2_some hg
    refine ⟨v, h', h2, h1, fun φ a w ho H next Q hn => ?_⟩
    obtain ⟨u, w', φ', hr, hrel, H', F'⟩ := nop_ok H hc ho h1
    unfold Oper.wp; rw [hr]
    exact hn φ' u w' hrel H' F'
  | call f args =>
    obtain ⟨v, h', h2, hgive⟩ := hcall _ _ _ _ _ hg
    refine ⟨v, h', h2, trivial, fun φ a w ho H next Q hn => ?_⟩
    have hx := ho.x
    cases hop : o.op <;> rw [hop] at hx <;> simp only [compOp, hop] at hc
    case call c =>
      split at hc <;> try cases hc
      · rename_i f' hcal hargs
        have hall : ∀ x ∈ c.args.toList, ∀ y, compOpd x = some y → rel φ (ρ y) (a.eval x) := fun x hxm y hy => hx x (by simp [Op.operands, Call.operands, hcal]; exact .inr (by simpa using hxm)) y hy
        have hvals := compOpds_all2 (ρ := ρ) (a := a) hargs hall
        refine does_enter (vs := c.args.map a.eval) hgive (fun hr => ?_) (vals_all hvals (by simp)) H hn
        have he : a.eval (.func f') = .func (.func f') #[] #[] := rfl
        simp only [execOp, hop, resolve, hcal, he, Deferred.ofValue, Sem.run_bind, Sem.run_pure, Result.andThen_ok, invoke]
        rw [callFunc_real hr]; simp
      · obtain ⟨_, _, e⟩ := map_some hc; cases e
      · split at hc <;> try cases hc
        all_goals first
          | (obtain ⟨_, _, e⟩ := map_some hc; cases e; done)
          | (split at hc <;> (try cases hc) <;> split at hc <;> cases hc; done)
          | (split at hc <;> cases hc; done)
    all_goals first
      | (cases hc; done)
      | (obtain ⟨_, _, e⟩ := map_some hc; cases e; done)
      | skip
    all_goals
      (repeat' (first | (cases hc; done) | (obtain ⟨_, _, e⟩ := map_some hc; cases e; done) | (obtain ⟨_, e⟩ := compBin_p hc; cases e; done) | (split at hc; skip)))
  | callv f args =>
    have hg1 : callF call (ρ f) (vals ρ args) h k = some r := hg
    unfold callF at hg1
    split at hg1 <;> try cases hg1
    rename_i p caps hf
    obtain ⟨v, h', h2, hgive⟩ := hcall _ _ _ _ _ hg1
    refine ⟨v, h', h2, trivial, fun φ a w ho H next Q hn => ?_⟩
    have hx := ho.x
    cases hop : o.op <;> rw [hop] at hx <;> simp only [compOp, hop] at hc
    case call c =>
      split at hc <;> try cases hc
      · rename_i x args' hnf hcal hargs
        obtain ⟨y, hy, e⟩ := map_some hc
        cases e
        have hfr := hx x (by simp [Op.operands, Call.operands, hcal]) f hy
        rw [hf] at hfr
        obtain ⟨g, cs', hv, rfl, hcs⟩ := hfr
        have hall : ∀ x ∈ c.args.toList, ∀ y, compOpd x = some y → rel φ (ρ y) (a.eval x) := fun x' hxm y hy => hx x' (by simp [Op.operands, Call.operands, hcal]; exact .inr (by simpa using hxm)) y hy
        have hvals := compOpds_all2 (ρ := ρ) (a := a) hargs hall
        refine does_enter (vs := c.args.map a.eval ++ cs') hgive (fun hr => ?_) (vals_all (hvals.app (hcs.mono fun _ _ => relP_rel)) (by simp)) H hn
        simp only [execOp, hop, resolve, hcal, hv, Deferred.ofValue, Sem.run_bind, Sem.run_pure, Result.andThen_ok, invoke]
        rw [callFunc_real hr]; simp
      · split at hc <;> try cases hc
        all_goals first
          | (obtain ⟨_, _, e⟩ := map_some hc; cases e; done)
          | (split at hc <;> (try cases hc) <;> split at hc <;> cases hc; done)
          | (split at hc <;> cases hc; done)
    all_goals first
      | (cases hc; done)
      | (obtain ⟨_, _, e⟩ := map_some hc; cases e; done)
      | skip
    all_goals
      (repeat' (first | (cases hc; done) | (obtain ⟨_, _, e⟩ := map_some hc; cases e; done) | (obtain ⟨_, e⟩ := compBin_p hc; cases e; done) | (split at hc; skip)))

end
end
end Go.Ev
