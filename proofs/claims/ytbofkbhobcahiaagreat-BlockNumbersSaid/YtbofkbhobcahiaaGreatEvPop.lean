/- Every operation whose value hangs on its operands alone: the model's run gives a related value and leaves the world. -/
import Derived.Test.YtbofkbhobcahiaaGreatEvEqs
namespace Go.Ev
noncomputable section
section
variable {P : Program} {φ : Phi} {ρ : Opd → GV} {a : Act} {o : Oper} {w : World}

theorem map_some {α β : Type} {x : Option α} {f : α → β} {y : β} (h : x.map f = some y) : ∃ z, x = some z ∧ f z = y := by
  cases x with
  | none => cases h
  | some z => exact ⟨z, rfl, Option.some.inj h⟩
theorem run_v {s : Sem Value} {u : Value} (h : s.run P w = .ok u w) : (do let x ← s; pure (Next.value x) : Sem Next).run P w = .ok (.value u) w := by
  rw [Sem.run_bind, h]; rfl

theorem nilck_ok {x : Operand} {y : Opd} {v : GV} (hop : o.op = .nilCheck x) (hx : rel φ (ρ y) (a.eval x)) (h : pNilck (ρ y) = some v) : ∃ u, (execOp a.eval o).run P w = .ok (.value u) w ∧ rel φ v u := by
  unfold pNilck at h
  split at h
  · rename_i p q e
    obtain rfl := Option.some.inj h
    rw [e] at hx
    obtain ⟨L, hp, hv⟩ := hx
    exact ⟨_, by simp only [execOp, hop, hv]; rfl, ⟨L, hp, rfl⟩⟩
  · rename_i f cs e
    obtain rfl := Option.some.inj h
    rw [e] at hx
    obtain ⟨g, cs', hv, hf, hcs⟩ := hx
    exact ⟨_, by simp only [execOp, hop, hv]; rfl, ⟨g, cs', rfl, hf, hcs⟩⟩
  · cases h

theorem unOp_ok {op : UnOp} {x v : GV} {u : Value} (h : (match op with | .not => pNot x | .neg => pNeg x | .xor => pCpl x | _ => none) = some v) (hx : rel φ x u) : ∃ r, (Op.unary op u).run P w = .ok r w ∧ rel φ v r := by
  cases op with
  | plus => cases h
  | not =>
    obtain ⟨b, rfl, h1⟩ := asBool_some h
    obtain rfl := rel_bool hx
    refine ⟨.bool (!b), rfl, ?_⟩
    cases b <;> (obtain rfl := Option.some.inj h1; rfl)
  | neg =>
    obtain ⟨k, z, rfl, h1⟩ := asInt_some h
    obtain rfl := rel_int hx
    obtain rfl := mkI_some h1
    exact ⟨_, by simp only [wrapF_eq, subF_eq]; rfl, rfl⟩
  | xor =>
    obtain ⟨k, z, rfl, h1⟩ := asInt_some h
    obtain rfl := rel_int hx
    obtain rfl := mkI_some h1
    refine ⟨_, ?_, rfl⟩
    show _ = Result.ok (Value.int k (bitsM .xor k (if k.signed = true then -1 else k.max) z)) w
    rfl

theorem minmax_ok {x y v : GV} {u u' : Value} {b : Bool} (h : (if b then pMin x y else pMax x y) = some v) (hx : rel φ x u) (hy : rel φ y u') (ats : Array TypeId) (ty : TypeId) :
    ∃ r, ((if b then Builtin.min_ ats ty #[u, u'] else Builtin.max_ ats ty #[u, u']) : Sem Value).run P w = .ok r w ∧ rel φ v r := by
  cases b with
  | true =>
    obtain ⟨k, p, q, rfl, rfl, h1⟩ := int2_rel (f := fun k x y => ifb (ilt y x) (some (.int k y)) (some (.int k x))) h hx hy
    refine ⟨.int k (if q < p then q else p), by simp [Builtin.min_, Builtin.min2], ?_⟩
    rw [ilt_eq, ifb_eq] at h1
    by_cases hlt : q < p
    · simp [hlt] at h1 ⊢; subst h1; rfl
    · simp [hlt] at h1 ⊢; subst h1; rfl
  | false =>
    obtain ⟨k, p, q, rfl, rfl, h1⟩ := int2_rel (f := fun k x y => ifb (ilt x y) (some (.int k y)) (some (.int k x))) h hx hy
    refine ⟨.int k (if p < q then q else p), by simp [Builtin.max_, Builtin.max2], ?_⟩
    rw [ilt_eq, ifb_eq] at h1
    by_cases hlt : p < q
    · simp [hlt] at h1 ⊢; subst h1; rfl
    · simp [hlt] at h1 ⊢; subst h1; rfl

theorem ext_ok {i : Nat} {x v : GV} {u : Value} (h : pExt i x = some v) (hx : rel φ x u) : ∃ r, (Instr.extract u i).run P w = .ok r w ∧ rel φ v r := by
  unfold pExt at h
  split at h
  · obtain ⟨vs, rfl, hl⟩ := hx
    obtain ⟨h1, h2⟩ := ifb_some h
    obtain rfl := Option.some.inj h2
    rename_i l
    have hi : i < l.length := by simpa [Nat.blt_eq] using h1
    obtain ⟨r, hr, hrel⟩ := hl.get i _ (lget_eq l i hi)
    refine ⟨r, ?_, rel_of_A hrel⟩
    have : vs[i]? = some r := by simpa using hr
    simp [Instr.extract, this]
  · cases h

theorem mkFn_ok : ∀ {xs : List Operand} {ys : List Opd}, compOpds xs = some ys → (∀ x ∈ xs, ∀ y, compOpd x = some y → rel φ (ρ y) (a.eval x)) → (vals ρ ys).all GV.isPtr = true →
    All2 (relP φ) (vals ρ ys) (xs.map a.eval)
  | [], ys, h, _, _ => by simp [compOpds] at h; subst h; trivial
  | x :: xs, ys, h, hx, hp => by
    simp only [compOpds] at h
    split at h <;> try cases h
    rename_i y ys' h1 h2
    simp only [vals, List.all_cons, Bool.and_eq_true] at hp
    refine ⟨?_, mkFn_ok h2 (fun x hx' => hx x (by simp [hx'])) hp.2⟩
    have := hx x (by simp) y h1
    have hp1 := hp.1
    revert this hp1
    cases ρ y <;> intro this hp1 <;> first | exact this | cases hp1

theorem run_bin {op : BinOp} {t ty : TypeId} {x y : Operand} {u : Value} (hop : o.op = .binOp op t x y ty) (hg : (eqGuard op t x y (a.eval x) (a.eval y)).run P w = .ok () w) (hr : (Go.binOp op t (a.eval x) (a.eval y)).run P w = .ok u w) :
    (execOp a.eval o).run P w = .ok (.value u) w := by
  simp only [execOp, hop]
  refine run_v ?_
  rw [Sem.run_bind, hg]
  exact hr
theorem plain_of {g : GV} {v : Value} (h : rel φ g v) (hb : g ≠ .bad) (ha : ∀ l, g ≠ .agg l) : v ≠ .nilIface ∧ ∀ cs, v ≠ .agg cs := by
  cases g with
  | bad => exact absurd rfl hb
  | agg l => exact absurd rfl (ha l)
  | bool b => obtain rfl := rel_bool h; simp
  | int k z => obtain rfl := rel_int h; simp
  | str l n => obtain ⟨s, rfl, -⟩ := h; simp
  | nilp => obtain rfl : v = .pointer none := h; simp
  | ptr p o => obtain ⟨_, -, rfl⟩ := h; simp
  | nils => obtain rfl : v = .slice none 0 0 := h; simp
  | sle => obtain ⟨_, _, rfl⟩ := h; simp
  | sl p o len cap e => obtain ⟨_, _, -, rfl, -⟩ := h; simp
  | nilf => obtain rfl : v = .nilFunc := h; simp
  | fn f cs => obtain ⟨_, _, rfl, -⟩ := h; simp
  | nilc => obtain rfl : v = .chan none := h; simp
  | chn p => obtain ⟨_, -, rfl⟩ := h; simp
  | tup l => obtain ⟨_, rfl, -⟩ := h; simp
theorem pBin_plain {op : BinOp} {x y v : GV} (h : pBin op x y = some v) : (x ≠ .bad) ∧ ∀ l, x ≠ .agg l := by
  cases op <;> (constructor <;> intros <;> rintro rfl <;> cases h)

theorem binAll_ok {op : BinOp} {t ty : TypeId} {x y : Operand} {x' y' : Opd} {g : POp} {v : GV} (hop : o.op = .binOp op t x y ty) (hc : compBin P op t x' y' = some (.p g)) (hx : rel φ (ρ x') (a.eval x)) (hy : rel φ (ρ y') (a.eval y))
    (hg : pop ρ g = some v) (w : World) : ∃ u, (execOp a.eval o).run P w = .ok (.value u) w ∧ rel φ v u := by
  by_cases hop2 : op = .eql ∨ op = .neq
  · have hc' : (match P.underlying t with
      | some .bool => some (.p (if op = .eql then .eqlB x' y' else .neqB x' y'))
      | some (.int _) | some .string => some (.p (.bin op x' y'))
      | some (.pointer _) => some (.p (if op = .eql then .eqlN 0 x' y' else .neqN 0 x' y'))
      | some (.slice _) => some (.p (if op = .eql then .eqlN 1 x' y' else .neqN 1 x' y'))
      | some (.func _ _ _) => some (.p (if op = .eql then .eqlN 2 x' y' else .neqN 2 x' y'))
      | some (.struct _) | some (.array _ _) => if P.eqGuardType P.depth t then none else (match flat P 100 t with | some ks => if szOf P t = some ks.length then some (.p (if op = .eql then .eqlA ks x' y' else .neqA ks x' y')) else none | none => none)
      | _ => none) = some (GOp.p g) := by
      rcases hop2 with rfl | rfl <;> exact hc
    have nil_case : ∀ c, ((c = 0 ∧ ∃ e, P.underlying t = some (.pointer e)) ∨ (c = 1 ∧ ∃ e, P.underlying t = some (.slice e)) ∨ (c = 2 ∧ ∃ p r v, P.underlying t = some (.func p r v))) →
        g = (if op = .eql then .eqlN c x' y' else .neqN c x' y') → ∃ u, (execOp a.eval o).run P w = .ok (.value u) w ∧ rel φ v u := by
      intro c hu hgg
      have key : ∃ b, eqN c (ρ x') (ρ y') = some b ∧ mkB (if op = .eql then b else !b) = some v := by
        rcases hop2 with rfl | rfl
        · subst hgg; obtain ⟨b, h1, h2⟩ := obind_some hg; exact ⟨b, h1, h2⟩
        · subst hgg; obtain ⟨b, h1, h2⟩ := obind_some hg; exact ⟨b, h1, by simpa using h2⟩
      obtain ⟨b, h1, h2⟩ := key
      obtain ⟨e1, e2, e3, e4⟩ := eqN_ok (w := w) h1 hx hy hu
      refine ⟨.bool (if op = .eql then b else !b), run_bin hop (e2 _ _ _) ?_, mkB_rel h2⟩
      rcases hop2 with rfl | rfl
      · rw [e3, e1 9999]; rfl
      · rw [e4, e1 9999]; rfl
    have agg_case : ∀ ks, isAggT P t = some true → P.eqGuardType P.depth t = false → flat P 100 t = some ks → szOf P t = some ks.length →
        g = (if op = .eql then .eqlA ks x' y' else .neqA ks x' y') → ∃ u, (execOp a.eval o).run P w = .ok (.value u) w ∧ rel φ v u := by
      intro ks ha hgt hks hsz hgg
      have key : ∃ l l' b, ρ x' = .agg l ∧ ρ y' = .agg l' ∧ eqL ks l l' = some b ∧ mkB (if op = .eql then b else !b) = some v := by
        rcases hop2 with rfl | rfl
        · subst hgg
          obtain ⟨l, e1, h1⟩ := asAgg_some hg
          obtain ⟨l', e2, h2⟩ := asAgg_some h1
          obtain ⟨b, h3, h4⟩ := obind_some h2
          exact ⟨l, l', b, e1, e2, h3, h4⟩
        · subst hgg
          obtain ⟨l, e1, h1⟩ := asAgg_some hg
          obtain ⟨l', e2, h2⟩ := asAgg_some h1
          obtain ⟨b, h3, h4⟩ := obind_some h2
          exact ⟨l, l', b, e1, e2, h3, by simpa using h4⟩
      obtain ⟨l, l', b, e1, e2, h3, h4⟩ := key
      rw [e1] at hx
      rw [e2] at hy
      obtain ⟨cs, hu1, hl⟩ := rel_agg hx
      obtain ⟨cs', hu2, hl'⟩ := rel_agg hy
      have hr := eqA_ok (w := w) hks ha hsz h3 hl hl'
      refine ⟨.bool (if op = .eql then b else !b), run_bin hop ?_ ?_, mkB_rel h4⟩
      · rw [hu1, hu2]; exact run_eqGuard_agg w op t x y cs cs' hgt
      · rw [hu1, hu2]
        rcases hop2 with rfl | rfl
        · rw [run_eql_struct, hr]; rfl
        · rw [run_neq_struct, hr]; rfl
    split at hc'
    · rename_i hu
      simp only [Option.some.injEq, GOp.p.injEq] at hc'
      have key : ∃ b, eqB (ρ x') (ρ y') = some b ∧ mkB (if op = .eql then b else !b) = some v := by
        rcases hop2 with rfl | rfl
        · subst hc'; obtain ⟨b, h1, h2⟩ := obind_some hg; exact ⟨b, h1, h2⟩
        · subst hc'; obtain ⟨b, h1, h2⟩ := obind_some hg; exact ⟨b, h1, by simpa using h2⟩
      obtain ⟨b, h1, h2⟩ := key
      obtain ⟨e1, e2, e3⟩ := eqB_ok (w := w) h1 hx hy hu
      refine ⟨.bool (if op = .eql then b else !b), run_bin hop (e3 _ _ _) ?_, mkB_rel h2⟩
      rcases hop2 with rfl | rfl
      · exact e1
      · exact e2
    · simp only [Option.some.injEq, GOp.p.injEq] at hc'
      subst hc'
      obtain ⟨u, hr, hrel⟩ := eqI_ok (w := w) (P := P) (t := t) hop2 hg hx hy
      obtain ⟨p1, p2⟩ := pBin_plain hg
      obtain ⟨q1, q2⟩ := plain_of hx p1 p2
      exact ⟨u, run_bin hop (guard_plain op t x y q1 q2) hr, hrel⟩
    · simp only [Option.some.injEq, GOp.p.injEq] at hc'
      subst hc'
      obtain ⟨u, hr, hrel⟩ := eqI_ok (w := w) (P := P) (t := t) hop2 hg hx hy
      obtain ⟨p1, p2⟩ := pBin_plain hg
      obtain ⟨q1, q2⟩ := plain_of hx p1 p2
      exact ⟨u, run_bin hop (guard_plain op t x y q1 q2) hr, hrel⟩
    · rename_i e hu
      simp only [Option.some.injEq, GOp.p.injEq] at hc'
      exact nil_case 0 (.inl ⟨rfl, e, hu⟩) hc'.symm
    · rename_i e hu
      simp only [Option.some.injEq, GOp.p.injEq] at hc'
      exact nil_case 1 (.inr (.inl ⟨rfl, e, hu⟩)) hc'.symm
    · rename_i p r vv hu
      simp only [Option.some.injEq, GOp.p.injEq] at hc'
      exact nil_case 2 (.inr (.inr ⟨rfl, p, r, vv, hu⟩)) hc'.symm
    · rename_i fs hu
      split at hc' <;> try cases hc'
      rename_i hgt
      split at hc' <;> try cases hc'
      rename_i ks hks
      split at hc' <;> simp only [Option.some.injEq, GOp.p.injEq, reduceCtorEq] at hc'
      rename_i hsz
      exact agg_case ks (by simp [isAggT, hu]) (by simpa using hgt) hks hsz hc'.symm
    · rename_i n e hu
      split at hc' <;> try cases hc'
      rename_i hgt
      split at hc' <;> try cases hc'
      rename_i ks hks
      split at hc' <;> simp only [Option.some.injEq, GOp.p.injEq, reduceCtorEq] at hc'
      rename_i hsz
      exact agg_case ks (by simp [isAggT, hu]) (by simpa using hgt) hks hsz hc'.symm
    · cases hc'
  · have h1 : op ≠ .eql ∧ op ≠ .neq := ⟨fun h => hop2 (.inl h), fun h => hop2 (.inr h)⟩
    have hgg : g = .bin op x' y' := by
      cases op <;> first
        | exact absurd rfl h1.1
        | exact absurd rfl h1.2
        | (simp only [compBin, Option.some.injEq, GOp.p.injEq] at hc; exact hc.symm)
    subst hgg
    obtain ⟨u, hr, hrel⟩ := binOp_int P w op t _ _ v _ _ φ hx hy hg h1
    obtain ⟨p1, p2⟩ := pBin_plain hg
    obtain ⟨q1, q2⟩ := plain_of hx p1 p2
    exact ⟨u, run_bin hop (guard_plain op t x y q1 q2) hr, hrel⟩

theorem pop_ok {g : POp} {v : GV} (hc : compOp P o = some (.p g)) (ho : Opnds φ ρ a o.op) (hg : pop ρ g = some v) (w : World) : ∃ u, (execOp a.eval o).run P w = .ok (.value u) w ∧ rel φ v u := by
  have hx := ho.x
  cases hop : o.op <;> rw [hop] at hx <;> simp only [compOp, hop] at hc
  case move x =>
    obtain ⟨y, hy, e⟩ := map_some hc
    simp only [GOp.p.injEq] at e; subst e
    obtain rfl := Option.some.inj hg
    exact ⟨_, by simp only [execOp, hop]; rfl, hx x (by simp [Op.operands]) y hy⟩
  case assign x =>
    obtain ⟨y, hy, e⟩ := map_some hc
    simp only [GOp.p.injEq] at e; subst e
    obtain rfl := Option.some.inj hg
    exact ⟨_, by simp only [execOp, hop]; rfl, hx x (by simp [Op.operands]) y hy⟩
  case pick c p q =>
    split at hc <;> simp only [Option.some.injEq, GOp.p.injEq, reduceCtorEq] at hc
    rename_i c' p' q' h1 h2 h3
    subst hc
    obtain ⟨t, ht, hr⟩ := pick_ok hg (hx c (by simp [Op.operands]) c' h1) (hx p (by simp [Op.operands]) p' h2) (hx q (by simp [Op.operands]) q' h3)
    refine ⟨_, ?_, hr⟩
    simp only [execOp, hop, ht, asBool]
    cases t <;> rfl
  case nilCheck x =>
    obtain ⟨y, hy, e⟩ := map_some hc
    simp only [GOp.p.injEq] at e; subst e
    exact nilck_ok hop (hx x (by simp [Op.operands]) y hy) hg
  case fieldAddr s x f =>
    split at hc <;> try cases hc
    rename_i fs y hu hy
    split at hc <;> try cases hc
    rename_i fd hf
    split at hc <;> try cases hc
    rename_i n hn
    split at hc <;> simp only [Option.some.injEq, GOp.p.injEq, reduceCtorEq] at hc
    rename_i hn0
    subst hc
    obtain ⟨u, hr, hrel⟩ := fa_ok (w := w) hg (hx x (by simp [Op.operands]) y hy) hu hf rfl hn hn0
    exact ⟨u, by simp only [execOp, hop]; exact run_v hr, hrel⟩
  case field s x f =>
    split at hc <;> try cases hc
    rename_i fs y hu hy
    split at hc <;> try cases hc
    rename_i fd hf
    split at hc <;> try cases hc
    rename_i n g' hn hgg
    split at hc <;> simp only [Option.some.injEq, GOp.p.injEq, reduceCtorEq] at hc
    rename_i hcond
    subst hc
    obtain ⟨cs, u, he, hr, hrel⟩ := fld_ok (w := w) hg (hx x (by simp [Op.operands]) y hy) hgg hn (by simpa using hcond)
    refine ⟨u, ?_, hrel⟩
    simp only [execOp, hop, he]
    refine run_v ?_
    simp only [Instr.field, Sem.run_bind, run_underlying hu, Result.andThen_ok, hf, asAgg, Sem.run_pure]
    exact hr
  case indexAddr t x i =>
    split at hc <;> try cases hc
    · rename_i e y j hu hy hj
      obtain ⟨n, hn, e'⟩ := map_some hc
      simp only [GOp.p.injEq] at e'; subst e'
      obtain ⟨u, hr, hrel⟩ := idxS_ok (w := w) hg (hx x (by simp [Op.operands]) y hy) (hx i (by simp [Op.operands]) j hj) hu hn
      exact ⟨u, by simp only [execOp, hop]; exact run_v hr, hrel⟩
    · rename_i len e y j hu hy hj
      obtain ⟨n, hn, e'⟩ := map_some hc
      simp only [GOp.p.injEq] at e'; subst e'
      obtain ⟨u, hr, hrel⟩ := idxA_ok (w := w) hg (hx x (by simp [Op.operands]) y hy) (hx i (by simp [Op.operands]) j hj) hu hn
      exact ⟨u, by simp only [execOp, hop]; exact run_v hr, hrel⟩
  case index t x i =>
    split at hc <;> try cases hc
    · rename_i y j hu hy hj
      obtain ⟨u, hr, hrel⟩ := idxStr_ok (w := w) hg (hx x (by simp [Op.operands]) y hy) (hx i (by simp [Op.operands]) j hj) hu
      exact ⟨u, by simp only [execOp, hop]; exact run_v hr, hrel⟩
    · rename_i len e y j hu hy hj
      split at hc <;> try cases hc
      rename_i n g' hn hgg
      split at hc <;> simp only [Option.some.injEq, GOp.p.injEq, reduceCtorEq] at hc
      rename_i hcond
      subst hc
      obtain ⟨u, hr, hrel⟩ := idxG_ok (w := w) hg (hx x (by simp [Op.operands]) y hy) (hx i (by simp [Op.operands]) j hj) hu hn hgg (by simpa using hcond)
      exact ⟨u, by simp only [execOp, hop]; exact run_v hr, hrel⟩
  case build t ps =>
    have hx' : ∀ x ∈ ps.toList, ∀ y, compOpd x.2 = some y → rel φ (ρ y) (a.eval x.2) := fun x hxm y hy => hx x.2 (by
      simp only [Op.operands, List.mem_toArray, List.mem_map]
      exact ⟨x, by simpa using hxm, rfl⟩) y hy
    split at hc <;> try cases hc
    · rename_i fs z hu hz
      split at hc <;> try cases hc
      rename_i hall
      obtain ⟨qs, hq, e⟩ := map_some hc
      simp only [GOp.p.injEq] at e; subst e
      obtain ⟨u, hr, hrel⟩ := build_ok (w := w) (.inl ⟨fs, hu, hall, rfl⟩) hz hq hx' hg
      exact ⟨u, by simp only [execOp, hop]; exact run_v hr, hrel⟩
    · rename_i n e z hu hz
      split at hc <;> try cases hc
      rename_i s hs
      obtain ⟨qs, hq, e⟩ := map_some hc
      simp only [GOp.p.injEq] at e; subst e
      obtain ⟨u, hr, hrel⟩ := build_ok (w := w) (.inr ⟨n, _, s, hu, hs, rfl⟩) hz hq hx' hg
      exact ⟨u, by simp only [execOp, hop]; exact run_v hr, hrel⟩
  case slice t x lo hi mx =>
    have hlo : ∀ y, compO lo = some y → relOpt φ (oval ρ y) (lo.map a.eval) := fun y h => relOpt_of h fun x' e y' h' => hx x' (by simp [Op.operands, e]) y' h'
    have hhi : ∀ y, compO hi = some y → relOpt φ (oval ρ y) (hi.map a.eval) := fun y h => relOpt_of h fun x' e y' h' => hx x' (by simp [Op.operands, e]) y' h'
    have hmx : ∀ y, compO mx = some y → relOpt φ (oval ρ y) (mx.map a.eval) := fun y h => relOpt_of h fun x' e y' h' => hx x' (by simp [Op.operands, e]) y' h'
    have hxx : ∀ y, compOpd x = some y → rel φ (ρ y) (a.eval x) := fun y h => hx x (by simp [Op.operands]) y h
    have hsome : ∀ (u v : Option Opd), ¬ ((u.isSome && v.isNone) = true) → (oval ρ u).isSome = true → (oval ρ v).isSome = true := by
      intro u v h1 h2
      cases u <;> cases v <;> simp [oval] at *
    split at hc <;> try cases hc
    · rename_i e y lo' hi' mx' hu hy h1 h2 h3
      split at hc <;> try cases hc
      rename_i n hn
      split at hc <;> try cases hc
      rename_i hmh
      split at hc <;> simp only [Option.some.injEq, GOp.p.injEq, reduceCtorEq] at hc
      rename_i hn0
      subst hc
      obtain ⟨u, hr, hrel⟩ := slS_ok (w := w) hg (hxx y hy) (hlo _ h1) (hhi _ h2) (hmx _ h3) (hsome _ _ hmh) hu hn hn0
      refine ⟨u, ?_, hrel⟩
      simp only [execOp, hop]
      refine run_v ?_
      simp only [Instr.sliceAt, Sem.run_bind, run_underlying hu, Result.andThen_ok]
      exact hr
    · rename_i len e y lo' hi' mx' hu hy h1 h2 h3
      split at hc <;> try cases hc
      rename_i n hn
      split at hc <;> simp only [Option.some.injEq, GOp.p.injEq, reduceCtorEq] at hc
      rename_i hmh
      subst hc
      obtain ⟨u, hr, hrel⟩ := slA_ok (w := w) hg (hxx y hy) (hlo _ h1) (hhi _ h2) (hmx _ h3) (hsome _ _ hmh) hu hn
      exact ⟨u, by simp only [execOp, hop]; exact run_v hr, hrel⟩
    · rename_i arr y lo' hi' mx' hu hy h1 h2 h3
      split at hc <;> try cases hc
      rename_i len e hu2
      split at hc <;> try cases hc
      rename_i n hn
      split at hc <;> simp only [Option.some.injEq, GOp.p.injEq, reduceCtorEq] at hc
      rename_i hmh
      subst hc
      obtain ⟨u, hr, hrel⟩ := slA_ok (w := w) (t := arr) hg (hxx y hy) (hlo _ h1) (hhi _ h2) (hmx _ h3) (hsome _ _ hmh) hu2 hn
      refine ⟨u, ?_, hrel⟩
      simp only [execOp, hop]
      refine run_v ?_
      have hxp : ∃ A, a.eval x = .pointer (some A) := by
        have h0 := hxx y hy
        simp only [pop, pSlA] at hg
        obtain ⟨p, q, e1, -⟩ := asPtr_some hg
        rw [e1] at h0
        obtain ⟨L, -, hv⟩ := h0
        exact ⟨_, hv⟩
      obtain ⟨A, hA⟩ := hxp
      rw [hA] at hr ⊢
      simp only [Instr.sliceAt, Sem.run_bind, run_underlying hu2, Result.andThen_ok, Instr.sureAddr, Sem.run_pure] at hr
      simp only [Instr.sliceAt, Instr.slice, Sem.run_bind, run_underlying hu, run_underlying hu2, Result.andThen_ok, asAddr, Sem.run_pure]
      exact hr
  case binOp op t x y ty =>
    split at hc <;> try cases hc
    rename_i x' y' hx' hy'
    exact binAll_ok hop hc (hx x (by simp [Op.operands]) x' hx') (hx y (by simp [Op.operands]) y' hy') hg w
  case unOp op t x =>
    split at hc <;> simp only [Option.some.injEq, GOp.p.injEq, reduceCtorEq] at hc
    all_goals
      rename_i x' hx'
      subst hc
      have h1 := hx x (by simp [Op.operands]) x' hx'
    · obtain ⟨u, hr, hrel⟩ := unOp_ok (w := w) (P := P) (op := .not) hg h1
      exact ⟨u, by simp only [execOp, hop]; exact run_v hr, hrel⟩
    · obtain ⟨u, hr, hrel⟩ := unOp_ok (w := w) (P := P) (op := .neg) hg h1
      exact ⟨u, by simp only [execOp, hop]; exact run_v hr, hrel⟩
    · obtain ⟨u, hr, hrel⟩ := unOp_ok (w := w) (P := P) (op := .xor) hg h1
      exact ⟨u, by simp only [execOp, hop]; exact run_v hr, hrel⟩
  case convert s d x =>
    split at hc <;> try cases hc
    · rename_i k1 k x' hs hd hx'
      have h1 := hx x (by simp [Op.operands]) x' hx'
      obtain ⟨k2, z, e, h2⟩ := asInt_some hg
      rw [e] at h1
      obtain h3 := rel_int h1
      obtain rfl := mkI_some h2
      refine ⟨.int k (k.wrap z), ?_, by rw [wrapF_eq]; rfl⟩
      simp only [execOp, hop, h3]
      refine run_v ?_
      simp only [convert, Sem.run_bind, run_underlying hs, run_underlying hd, Result.andThen_ok]
      rfl
    · split at hc <;> cases hc
    · split at hc
      · split at hc <;> cases hc
      · cases hc
  case extract x i =>
    obtain ⟨y, hy, e⟩ := map_some hc
    simp only [GOp.p.injEq] at e; subst e
    obtain ⟨u, hr, hrel⟩ := ext_ok (w := w) (P := P) hg (hx x (by simp [Op.operands]) y hy)
    exact ⟨u, by simp only [execOp, hop]; exact run_v hr, hrel⟩
  case makeFunc f first caps =>
    split at hc <;> simp only [Option.some.injEq, GOp.p.injEq, reduceCtorEq] at hc
    rename_i f' cs hf hcs
    subst hc
    obtain ⟨hp, h2⟩ := ifb_some hg
    obtain rfl := Option.some.inj h2
    have hcap := mkFn_ok (φ := φ) (a := a) hcs (fun x hxm y hy => hx x (by simp [Op.operands]; exact .inr (by simpa using hxm)) y hy) hp
    have hfirst : first = #[] := by
      apply Array.toList_inj.1; simpa using hf
    refine ⟨.func (.func f') #[] (caps.map a.eval), ?_, ⟨f', _, rfl, rfl, by simpa using hcap⟩⟩
    simp only [execOp, hop, hfirst, Instr.makeFunc]
    exact run_v (by simp)
  case call c =>
    split at hc <;> try cases hc
    · obtain ⟨y, hy, e⟩ := map_some hc
      cases e
    · rename_i b args hcal hargs
      have hall : ∀ x ∈ c.args.toList, ∀ y, compOpd x = some y → rel φ (ρ y) (a.eval x) := fun x hxm y hy => hx x (by simp [Op.operands, Call.operands, hcal]; exact by simpa using hxm) y hy
      have hrun : ∀ u, (Sem.run P (builtin b c.argTypes o.type (c.args.map fun | .const _ => true | _ => false) (c.args.map a.eval)) w = .ok (.value u) w) → (execOp a.eval o).run P w = .ok (.value u) w := by
        intro u h
        simp only [execOp, hop, resolve, hcal, Sem.run_bind, Sem.run_pure, Result.andThen_ok, invoke]
        exact h
      have hvals := compOpds_all2 (ρ := ρ) (a := a) hargs hall
      have hmap : (c.args.map a.eval) = (c.args.toList.map a.eval).toArray := by rw [← Array.toList_map]
      have htyp : ∀ d, (c.argTypes[0]?).map P.underlying = some (some d) → ∃ t, c.argTypes[0]? = some t ∧ P.underlying t = some d := by
        intro d hd
        obtain ⟨t, h1, h2⟩ := map_some hd
        exact ⟨t, h1, h2⟩
      split at hc <;> try cases hc
      · rename_i y e hat
        obtain ⟨t, ht, hu⟩ := htyp _ hat
        match hl : c.args.toList.map a.eval, hvals with
        | [u], hv =>
          have h1 : rel φ (ρ y) u := hv.1
          rw [hmap, hl] at hrun
          simp only [pop, pLenS] at hg
          split at hg <;> try cases hg
          · rename_i p oo len cap ee hρ
            rw [hρ] at h1
            obtain ⟨L, cc, -, rfl, -⟩ := h1
            exact ⟨.int .i64 len, hrun _ (run_v (by simp [Builtin.len_, ht, run_underlying hu, Sem.run_bind, goInt])), rfl⟩
          · rename_i hρ
            rw [hρ] at h1
            obtain rfl : u = .slice none 0 0 := h1
            exact ⟨.int .i64 0, hrun _ (run_v (by simp [Builtin.len_, ht, run_underlying hu, Sem.run_bind, goInt])), rfl⟩
          · rename_i hρ
            rw [hρ] at h1
            obtain ⟨A, cc, rfl⟩ := h1
            exact ⟨.int .i64 0, hrun _ (run_v (by simp [Builtin.len_, ht, run_underlying hu, Sem.run_bind, goInt])), rfl⟩
      · rename_i y hat
        obtain ⟨t, ht, hu⟩ := htyp _ hat
        match hl : c.args.toList.map a.eval, hvals with
        | [u], hv =>
          have h1 : rel φ (ρ y) u := hv.1
          rw [hmap, hl] at hrun
          simp only [pop, pLenStr] at hg
          split at hg <;> try cases hg
          rename_i len n hρ
          rw [hρ] at h1
          obtain ⟨s, rfl, hs, -⟩ := h1
          refine ⟨.int .i64 len, hrun _ (run_v ?_), rfl⟩
          have hsz : s.size = len := by rw [← hs, Array.length_toList]; rfl
          simp only [Builtin.len_, ht, List.getElem?_toArray, List.getElem?_cons_zero, Sem.run_bind, run_underlying hu, Result.andThen_ok, goInt, hsz]
          rfl
      · rename_i y n e hat
        obtain ⟨t, ht, hu⟩ := htyp _ hat
        match hl : c.args.toList.map a.eval, hvals with
        | [u], hv =>
          rw [hmap, hl] at hrun
          simp only [pop, Option.some.injEq, ho.c] at hg
          subst hg
          exact ⟨.int .i64 n, hrun _ (run_v (by simp [Builtin.len_, ht, run_underlying hu, Sem.run_bind, goInt])), rfl⟩
      · rename_i x' y'
        match hl : c.args.toList.map a.eval, hvals with
        | [u, u'], hv =>
          rw [hmap, hl] at hrun
          obtain ⟨r, hr, hrel⟩ := minmax_ok (w := w) (P := P) (b := true) hg hv.1 hv.2.1 c.argTypes o.type
          exact ⟨r, hrun _ (run_v hr), hrel⟩
      · rename_i x' y'
        match hl : c.args.toList.map a.eval, hvals with
        | [u, u'], hv =>
          rw [hmap, hl] at hrun
          obtain ⟨r, hr, hrel⟩ := minmax_ok (w := w) (P := P) (b := false) hg hv.1 hv.2.1 c.argTypes o.type
          exact ⟨r, hrun _ (run_v hr), hrel⟩
      · split at hc <;> try cases hc
        split at hc <;> cases hc
      · obtain ⟨_, _, e⟩ := map_some hc; cases e
      · split at hc <;> try cases hc
        split at hc <;> cases hc
  all_goals first
    | (cases hc; done)
    | (obtain ⟨_, _, e⟩ := map_some hc; cases e; done)
    | skip
  all_goals
    (split at hc <;> try cases hc)
  all_goals first
    | (split at hc <;> cases hc; done)
    | (split at hc <;> (try cases hc) <;> split at hc <;> cases hc; done)
    | skip
  · split at hc <;> try cases hc
    split at hc <;> try cases hc
    split at hc <;> try cases hc
    obtain ⟨_, _, e⟩ := map_some hc
    cases e

end
end
end Go.Ev
