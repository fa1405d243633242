/- Regions that draw their order. -/
import Derived.Test.YtbofkbhobcahiaaGreatEvDraw9
namespace Go.Ev
noncomputable section
section
variable {P : Program} {φ : Phi} {a : Act} {o : Oper} {h : Heap} {w : World} {c : Cx} {ops : Array Oper} {fr : Tr GV} {env : Env}

theorem compOpers_get : ∀ {l : List Oper} {gs : List GOper}, compOpers P c ops l = some gs → gs.length = l.length ∧ ∀ (k : Nat) (o : Oper) (g : GOper), l[k]? = some o → gs[k]? = some g → compOper P c ops o = some g
  | [], gs, hc => by cases hc; exact ⟨rfl, fun k o g ho => by simp at ho⟩
  | o :: l, gs, hc => by
    obtain ⟨g, gs', rfl, h1, h2⟩ := compOpers_cons hc
    obtain ⟨h3, h4⟩ := compOpers_get h2
    refine ⟨by simp [h3], fun k o' g' ho hg => ?_⟩
    cases k with
    | zero => simp only [List.getElem?_cons_zero, Option.some.injEq] at ho hg; subst ho hg; exact h1
    | succ k => simp only [List.getElem?_cons_succ] at ho hg; exact h4 k o' g' ho hg

theorem drew_rel {φ : Phi} {h : Heap} {w : World} {n : Nat} (H : HRel φ h w) : HRel φ h { w with drawn := n } := ⟨fun p L hp => relO_other (w := w) (.refl φ) (by rfl) (H.obj p L hp), H.lt, H.inj, H.new⟩

theorem rho_eq {E E' : Env} {op : Op} (hx : ∀ t, Operand.tmp t ∈ op.operands → elook t fr E' = elook t fr E) (he : Opnds φ (rho fr E) a op) : Opnds φ (rho fr E') a op where
  c g := rfl
  x x hm y hy := by
    have := he.x x hm y hy
    cases x with
    | tmp t =>
      cases hy
      show rel φ (elook t fr E') _
      rw [hx t hm]; exact this
    | const v =>
      obtain ⟨g, hg, rfl⟩ := map_some hy
      exact this
    | func f => cases hy; exact this
    | global g => cases hy

theorem draw_ok {call : CallT} (hm : P.follows .mixedOrders = true) (hcall : CallOk P call) {gs : List GOper} {k : Tr GV → Heap → R} {r : Out} {id : Nat} (hc : compOpers P c ops ops.toList = some gs) (hd : drawOk ops gs = true)
    (hg : regRunD call fr (outsOf c ops.toList) (cksOf ops.size (ancs ops.toList []) gs) k gs [] [] h = some r) :
    ∃ fr' h', k fr' h' = some r ∧ ∀ φ a w, FrRel c φ fr a → HRel φ h w → ∀ Q, (∀ φ' a' w', FrRel c φ' fr' a' → HRel φ' h' w' → Fr φ h w φ' h' w' → Q .normal a' w') → (Code.region id ops true).wp P Q a w := by
  obtain ⟨hlen, hget⟩ := compOpers_get hc
  have hlen : gs.length = ops.size := by simpa using hlen
  obtain ⟨E, H, V, hE0, hH0, hsteps, hsE, hck, hnth⟩ := trace_ok hcall ops.toList gs [] [] h 0 hc hg
  simp only [Nat.zero_add, Array.length_toList, Array.getElem?_toList] at hsteps hck hnth
  obtain ⟨hk, hcks⟩ := chks_ok hck
  rw [putOuts_eq] at hk
  refine ⟨_, _, hk, fun φ a w hf H0 Q hQ => ?_⟩
  -- the checks
  unfold drawOk at hd
  simp only [Bool.and_eq_true] at hd
  obtain ⟨⟨⟨⟨⟨⟨hlt, hsl⟩, hpr⟩, hcvok⟩, hnd⟩, hself⟩, hlater⟩ := hd
  have hgetc : ∀ (k : Nat) (o : Oper) (g : GOper), ops[k]? = some o → gs[k]? = some g → dstOk c o.dst = true ∧ g.dst = o.dst ∧ compOp P o = some g.op := by
    intro k o g ho hg
    obtain ⟨h1, h2, -, h4⟩ := compOper_some (hget k o g (by simpa using ho) hg)
    exact ⟨h1, h2, h4⟩
  have hgs : ∀ {k : Nat}, k < ops.size → ∃ g, gs[k]? = some g := fun hk => ⟨_, List.getElem?_eq_getElem (by omega)⟩
  have hsl' : SlotsOk ops := by
    intro i j x y hij hx hy
    have := allPairs_ok hsl hij (lt_of_at hy)
    rw [hx, hy] at this
    exact this
  have hpr' : PairsOk ops gs := by
    intro i j hij hj
    obtain ⟨gi, hi'⟩ := hgs (show i < ops.size by omega)
    obtain ⟨gj, hj'⟩ := hgs hj
    have := allPairs_ok hpr hij hj
    rw [hi', hj'] at this
    simp only [clsAt, hi', hj']
    exact this
  have hchain := chain_ok (P := P) (ops := ops) (c := c) (fr := fr) (E := E) (H := H) (V := V) (n := ops.size) (a := a) (w := w)
    (fun i hi => by
      obtain ⟨g, hg'⟩ := hgs hi
      have ho : ops[i]? = some ops[i] := Array.getElem?_eq_getElem hi
      exact ⟨_, g, (hgetc i _ g ho hg').1, hsteps i _ g ho hg'⟩)
    (by rw [hE0]; exact hf.toEnv) (by rw [hH0]; exact H0) hf.size
  have T : Txt P ops gs fr E H V := {
    len := hlen
    step := hsteps
    mon := fun i hi => (hchain (i + 1) (by omega)).2 i (by omega)
    new := fun i hi p hp => by
      obtain ⟨⟨φ1, a1, w1, -, H1, -⟩, -⟩ := hchain i hi
      exact H1.new p hp }
  -- the looks that are taken once more
  have stays : ∀ (k : Nat) (o : Oper) (g : GOper) (d : Nat), ops[k]? = some o → gs[k]? = some g → (clsOf g.op = .r ∨ clsOf g.op = .v) → o.dst = some d → (cksAt ops.size (ancs ops.toList []) gs k).isEmpty = false →
      elook d fr (E ops.size) = V k ∧ ∀ t, t ∈ o.looksAt ops → elook t fr (E ops.size) = elook t fr (E k) := by
    intro k o g d ho hg' hcl hod hne
    have hk := lt_of_at ho
    have hcb : (clsOf g.op != .r && clsOf g.op != .v) = false := by rcases hcl with h | h <;> rw [h] <;> rfl
    have hselfk : d ∉ o.looksAt ops := by
      rw [List.all_eq_true] at hself
      have := hself k (List.mem_range.2 hk)
      rw [ho, hg'] at this
      simp only [hcb, hod, hne, Bool.or_false, Bool.false_or] at this
      simpa using this
    have hlat : ∀ i y, k < i → ops[i]? = some y → ∀ d', y.dst = some d' → d' ∉ o.looksAt ops ∧ d' ≠ d := by
      intro i y hki hy d' hd'
      have := allPairs_ok hlater hki (lt_of_at hy)
      rw [ho, hy, hg'] at this
      simp only [hcb, hd', hne, Bool.or_false, hod] at this
      simp only [Bool.false_or, Bool.and_eq_true, Bool.not_eq_true', List.contains_eq_mem, decide_eq_false_iff_not, bne_iff_ne, ne_eq, Option.some.injEq] at this
      exact ⟨this.1, fun e => this.2 e.symm⟩
    refine ⟨?_, fun t ht => ?_⟩
    · rw [T.elook ops.size (k + 1) (by omega) (Nat.le_refl _) fun i y h1 h2 hy hyd => (hlat i y (by omega) hy d hyd).2 rfl]
      rw [(T.step k o g ho hg').1, hod]
      show elook d fr ((d, V k) :: E k) = _
      rw [elook_cons, if_pos rfl]
    · refine T.elook ops.size k (by omega) (Nat.le_refl _) fun i y h1 h2 hy hyd => ?_
      rcases Nat.lt_or_ge k i with h3 | h3
      · exact (hlat i y h3 hy t hyd).1 ht
      · obtain rfl : i = k := (by omega)
        rw [ho] at hy; obtain rfl := Option.some.inj hy
        rw [hod] at hyd; obtain rfl := Option.some.inj hyd
        exact hselfk ht
  have nonempty : ∀ {k : Nat} {x : Nat × Nat × ROp}, x ∈ cksAt ops.size (ancs ops.toList []) gs k → k < ops.size → (cksAt ops.size (ancs ops.toList []) gs k).isEmpty = false ∧ x ∈ cksOf ops.size (ancs ops.toList []) gs := by
    intro k x hmem hk
    refine ⟨?_, ?_⟩
    · cases hx : cksAt ops.size (ancs ops.toList []) gs k with
      | nil => rw [hx] at hmem; cases hmem
      | cons => rfl
    · unfold cksOf
      exact List.mem_flatMap.2 ⟨k, List.mem_range.2 hk, hmem⟩
  have hckf : ∀ (k : Nat) (o : Oper) (g : GOper) (q : ROp), ops[k]? = some o → gs[k]? = some g → g.op = .r q → rop (rho fr (E k)) (H k) q = some (V k) → CkFact ops gs fr E H V k o q := by
    intro k o g q ho hg' hq hv
    have hk := lt_of_at ho
    obtain ⟨-, hgd, hcomp⟩ := hgetc k o g ho hg'
    have hcl : clsOf g.op = .r := by rw [hq]; rfl
    -- its slot
    have hdst : ∃ d, o.dst = some d := by
      cases hod : o.dst with
      | some d => exact ⟨d, rfl⟩
      | none =>
        rw [List.all_eq_true] at hnd
        have := hnd g (List.mem_of_getElem? hg')
        obtain ⟨gd, gg, gop⟩ := g
        simp only at hq hgd
        subst hq
        rw [hod] at hgd
        subst hgd
        cases this
    obtain ⟨d, hod⟩ := hdst
    have main : ∀ j, j < ops.size → ∀ m, (d, ops.size - m, q) ∈ cksAt ops.size (ancs ops.toList []) gs k → m ≤ ops.size →
        ∃ ρ', (∀ φ a, Looks φ fr (E k) a ops o → Opnds φ ρ' a o.op) ∧ rop ρ' (H m) q = some (V k) := by
      intro j hj m hmem hmn
      obtain ⟨hne, hall⟩ := nonempty hmem hk
      obtain ⟨hEd, hEt⟩ := stays k o g d ho hg' (.inl hcl) hod hne
      refine ⟨rho fr (E ops.size), fun φ a hl => rho_eq (fun t ht => hEt t (List.mem_append_left _ (List.mem_filterMap.2 ⟨.tmp t, by simpa using ht, rfl⟩))) hl.opnds, ?_⟩
      rcases hcks d (ops.size - m) q hall with ⟨l, hl⟩ | ⟨u, hu, hs⟩
      · exfalso
        rw [hEd] at hl
        obtain ⟨⟨φ1, a1, w1, he1, H1, -⟩, -⟩ := hchain k (by omega)
        refine rop_noTup (a := a1) (o := o) H1 (fun x hqx => ?_) hv l hl
        cases x with
        | t n => exact ⟨_, he1 n⟩
        | c v =>
          rw [List.all_eq_true] at hnd
          have := hnd g (List.mem_of_getElem? hg')
          obtain ⟨gd, gg, gop⟩ := g
          simp only at hq hgd
          subst hq hqx
          rw [hod] at hgd
          subst hgd
          cases this
      · have := same_eq hs
        rw [hEd] at this
        rw [this] at hu
        rw [hnth, if_pos (by omega), show ops.size - (ops.size - m) = m by omega] at hu
        exact hu
    intro j hj hje
    have hgj := hgs hj
    obtain ⟨gj, hgj⟩ := hgj
    have hcj : (clsOf gj.op = .e || clsOf gj.op = .w) = true := by
      rcases hje with h | h <;> simp [clsAt, hgj] at h <;> simp [h]
    obtain ⟨gd, gg, gop⟩ := g
    simp only at hq hgd
    subst hq
    rw [hod] at hgd
    subst hgd
    refine ⟨fun h1 h2 => main j hj (j + 1) ?_ (by omega), fun h1 h2 => main j hj j ?_ (by omega)⟩
    · unfold cksAt
      rw [hg']
      refine List.mem_filterMap.2 ⟨j, List.mem_range.2 hj, ?_⟩
      have hb : Nat.blt k j = true := by simpa [Nat.blt_eq] using h1
      simp only [hgj, hcj, hb, h2, if_true, Bool.false_eq_true, if_false]
    · unfold cksAt
      rw [hg']
      refine List.mem_filterMap.2 ⟨j, List.mem_range.2 hj, ?_⟩
      have hb : Nat.blt k j = false := by
        cases e : Nat.blt k j with
        | false => rfl
        | true => have := nat_blt e; omega
      simp only [hgj, hcj, hb, h2, if_true, Bool.false_eq_true, if_false]
  have hcvf : ∀ (k : Nat) (g : GOper) (x : Opd), gs[k]? = some g → g.op = .n (.conv x) → ConvFact ops gs H V k := by
    intro k g x hg' hq p q len cap e hV
    have hk : k < ops.size := by
      rcases Nat.lt_or_ge k gs.length with h | h
      · omega
      · rw [List.getElem?_eq_none h] at hg'; cases hg'
    have ho : ops[k]? = some ops[k] := Array.getElem?_eq_getElem hk
    obtain ⟨-, hgd, hcomp⟩ := hgetc k _ g ho hg'
    have hcl : clsOf g.op = .v := by rw [hq]; rfl
    rw [List.all_eq_true] at hcvok
    have hcv := hcvok k (List.mem_range.2 hk)
    unfold convOk at hcv
    obtain ⟨gd, gg, gop⟩ := g
    simp only at hq hgd hcl
    subst hq
    rw [hg'] at hcv
    cases gg with
    | some _ => cases hcv
    | none =>
    simp only [Bool.and_eq_true] at hcv
    obtain ⟨⟨⟨⟨hds, hlt1⟩, hord⟩, honly⟩, hlay⟩ := hcv
    have hk1 := nat_blt hlt1
    obtain ⟨d, rfl⟩ := Option.isSome_iff_exists.1 hds
    generalize hk1e : convAt gs x = k1 at hord honly hlay hk1
    obtain ⟨g1, hg1⟩ := hgs (show k1 < ops.size by omega)
    have ho1 : ops[k1]? = some ops[k1] := Array.getElem?_eq_getElem (by omega)
    rw [hg1] at hlay
    -- both run
    have ran : ∀ (i : Nat) (o : Oper) (dd : Option Nat) (op : GOp), ops[i]? = some o → gs[i]? = some ⟨dd, none, op⟩ → RunFact (rho fr (E i)) (H i) (V i) (H (i + 1)) op := by
      intro i o dd op hoi hgi
      have hi := lt_of_at hoi
      rcases (T.step i o _ hoi hgi).2 with ⟨-, -, hno⟩ | ⟨-, hrf, -⟩
      · exfalso
        obtain ⟨-, -, h3, -⟩ := compOper_some (hget i o _ (by simpa using hoi) hgi)
        have hgu : o.guard = none := by
          unfold compGuard at h3
          split at h3
          · assumption
          · split at h3 <;> cases h3
        obtain ⟨⟨φ1, a1, w1, he1, -, -⟩, -⟩ := hchain i (by omega)
        have := hno φ1 a1 he1.looks
        simp [Region.wanted, hgu] at this
      · exact hrf
    have hrk := ran k _ _ _ ho hg'
    obtain ⟨hHk, hVk, -⟩ := conv_same (show nop (rho fr (E k)) (H k) (.conv x) = some (V k, H (k + 1)) from hrk)
    split at hlay
    case h_2 => cases hlay
    rename_i dd z ln sz pk ps hgg
    obtain rfl := Option.some.inj hgg
    have hr1 : nBuildS z ln sz pk (parts (rho fr (E k1)) ps) (H k1) = some (V k1, H (k1 + 1)) := ran k1 _ _ _ ho1 hg1
    unfold nBuildS at hr1
    obtain ⟨l1, -, hr2⟩ := obind_some hr1
    obtain ⟨c1, -, hr3⟩ := obind_some hr2
    obtain ⟨b1, hb1, hr4⟩ := obind_some hr3
    rw [hnew_eq] at hr4
    simp only [Option.some.injEq, Prod.mk.injEq] at hr4
    obtain ⟨hv1, hh1⟩ := hr4
    have hbw : RowW b1 := by
      unfold csObj at hb1
      cases c1 with
      | l l => obtain rfl := Option.some.inj hb1; exact ⟨rfl, rfl⟩
      | pk k w len n => obtain ⟨-, h2⟩ := ifb_some hb1; obtain rfl := Option.some.inj h2; exact ⟨rfl, rfl⟩
    cases x with
    | c v => simp only [convAt] at hk1e; omega
    | t d' =>
      have hd1 : ops[k1].dst = some d' := by
        have hlt2 : gs.findIdx (fun g => g.dst == some d') < gs.length := by
          have : convAt gs (.t d') = gs.findIdx (fun g => g.dst == some d') := rfl
          rw [← this, hk1e]; omega
        have h1 := List.findIdx_getElem (w := hlt2)
        have h2 : gs[gs.findIdx (fun g => g.dst == some d')]? = gs[k1]? := by
          have : gs.findIdx (fun g => g.dst == some d') = k1 := hk1e
          rw [this]
        rw [List.getElem?_eq_getElem hlt2, hg1] at h2
        obtain h2 := Option.some.inj h2
        rw [h2] at h1
        rw [← (hgetc k1 _ _ ho1 hg1).2.1]
        simpa using h1
      have hEk : elook d' fr (E k) = V k1 := by
        rw [T.elook k (k1 + 1) (by omega) (by omega) fun i y h1 h2 hy hyd => ?_]
        · rw [(T.step k1 _ _ ho1 hg1).1, hd1]
          show elook d' fr ((d', V k1) :: E k1) = _
          rw [elook_cons, if_pos rfl]
        · rw [List.all_eq_true] at honly
          have := honly i (List.mem_range.2 h2)
          obtain ⟨gi, hgi⟩ := hgs (show i < ops.size by omega)
          have hgd2 : gi.dst = some d' := by rw [(hgetc i y gi hy hgi).2.1, hyd]
          rw [hgi] at this
          simp only [hgd2, Bool.or_eq_true, Bool.not_eq_true'] at this
          rcases this with h3 | h3
          · have := nat_beq h3; omega
          · simp at h3
      have hVV : V k = V k1 := by rw [hVk]; exact hEk
      rw [hVV, ← hv1] at hV
      cases hV
      have hHe : ∀ {p : Pos}, p = (H k1).nx → Tr.get .gone p (H (k1 + 1)).t = b1 := by rintro p rfl; rw [← hh1]; exact Tr.get_set _ _ _ _
      refine ⟨k1, hk1, hord, by simp [clsAt, hg1, clsOf], rfl, by rw [← hh1]; exact Pos.nat_succ _, by rw [hHe rfl]; exact hbw, fun j h1 h2 h3 => ?_⟩
      obtain ⟨gj, hgj⟩ := hgs h2
      have hcj : (clsOf gj.op = .e || clsOf gj.op = .w) = true := by
        rcases h3 with h | h <;> simp [clsAt, hgj] at h <;> simp [h]
      have hmem : (d, ops.size - (j + 1), ROp.row (.t d')) ∈ cksAt ops.size (ancs ops.toList []) gs k := by
        unfold cksAt
        rw [hg']
        refine List.mem_filterMap.2 ⟨j, List.mem_range.2 h2, ?_⟩
        have hb : Nat.blt k1 j = true := by simpa [Nat.blt_eq] using h1
        simp only [hgj, hcj, hk1e, hb, Bool.and_self, if_true]
      obtain ⟨hne, hall⟩ := nonempty hmem hk
      obtain ⟨hEd, hEt⟩ := stays k _ _ d ho hg' (.inr hcl) hgd.symm hne
      rcases hcks d _ _ hall with ⟨l, hl⟩ | ⟨u, hu, hs⟩
      · rw [hEd, hVV, ← hv1] at hl; cases hl
      · have hxt : elook d' fr (E ops.size) = V k1 := by
          rw [← hEk]
          refine hEt d' ?_
          obtain ⟨s, dd2, y, e0, e1, hop, hy, -⟩ := compOp_conv hcomp
          cases y with
          | tmp t => cases hy; exact List.mem_append_left _ (List.mem_filterMap.2 ⟨.tmp d', by rw [hop]; simp [Op.operands], rfl⟩)
          | const v => obtain ⟨_, _, e⟩ := map_some hy; cases e
          | func f => cases hy
          | global g => cases hy
        rw [hnth, if_pos (by omega), show ops.size - (ops.size - (j + 1)) = j + 1 by omega] at hu
        have hu1 : rRow (elook d' fr (E ops.size)) (H (j + 1)) = some u := hu
        rw [hxt, ← hv1] at hu1
        obtain ⟨g1, hu2⟩ := ifb_some (show ifb (Go.Ev.hget _ _).isRow _ _ = some u from hu1)
        obtain ⟨g2, -⟩ := ifb_some hu2
        rw [hget_eq] at g1 g2
        exact ⟨g1, g2⟩
  -- the walk
  refine wp_region_any hm ?_
  have H0' : HRel φ (H 0) { w with drawn := w.drawn + 1 } := by rw [hH0]; exact drew_rel H0
  have hnf : ∀ i, ¬ Ls (Array.replicate ops.size false) i := by
    intro i h1
    unfold Ls at h1
    rw [Array.getD_eq_getD_getElem?, Array.getElem?_replicate] at h1
    split at h1 <;> cases h1
  have hinl : ∀ {p : Pos} {b : GObj} {m : Nat}, Cur ops gs H 0 (Ls (Array.replicate ops.size false)) p b m → p.nat < (H 0).nx.nat ∧ b = Tr.get .gone p (H 0).t ∧ m = 0 := by
    rintro p b m (h1 | ⟨i, h1, -⟩)
    · exact h1
    · exact absurd h1 (hnf i)
  have hbel : φ.le (φ.below (H 0).nx.nat) := fun p L hp => Phi.below_of (H0'.lt p L hp).2 hp
  refine wpAny_inv (cx := c) (c := 0) (φ := φ) (φ0 := φ) (w0 := { w with drawn := w.drawn + 1 }) T H0' hlt hsl' hpr' (fun k o ho => ?_) (fun k o g ho hg' => (hgetc k o g ho hg').2.2) hckf hcvf (Q := Q) (fun φ' a' w' he H' F' hs hdf => ?_) _ _ _ _ (by simp) ?_ ?_
  · obtain ⟨g, hg'⟩ := hgs (lt_of_at ho)
    exact (hgetc k o g ho hg').1
  · refine hQ φ' a' w' ?_ H' ?_
    · refine outs_ok hf he ?_ (compOpers_dst hc) hs hdf
      have : ∀ i, i ≤ ops.size → EnvDom ops.toList (E i) := by
        intro i
        induction i with
        | zero => intro _; rw [hE0]; intro p hp; cases hp
        | succ i ih =>
          intro hi
          have ho : ops[i]? = some ops[i] := Array.getElem?_eq_getElem (by omega)
          obtain ⟨g, hg'⟩ := hgs (show i < ops.size by omega)
          rw [(T.step i _ g ho hg').1]
          cases hod : ops[i].dst with
          | none => exact ih (by omega)
          | some d =>
            intro p hp
            rcases List.mem_cons.1 hp with rfl | hp
            · exact ⟨ops[i], by simp, hod⟩
            · exact ih (by omega) p hp
      exact this _ (Nat.le_refl _)
    · have := (Fr.drew (φ := φ) (h := h) (w := w) (w.drawn + 1)).trans (hH0 ▸ F')
      exact this
  · exact {
      closed := fun j o hj => absurd hj (hnf j)
      lt := fun i hi => absurd hi (hnf i)
      cle := Nat.zero_le _
      cS := fun i hi => by omega
      ctop := .inl rfl
      cmax := fun i hi => absurd hi (hnf i)
      slot := fun t i hi h1 _ => by
        rw [T.elook i 0 (Nat.zero_le _) hi fun j y _ h3 hy hyd => hnf j (h1 j y h3 hy hyd), hE0]
        exact (hf.slot t).mono (fun p L hp => Phi.below_of (Nat.lt_of_lt_of_le (H0'.lt p L hp).2 (T.nx _ 0 (Nat.zero_le _) (by omega))) hp)
      dom := fun p L hp => ⟨(H0'.lt p L hp).1, _, _, .inl ⟨(H0'.lt p L hp).2, rfl, rfl⟩⟩
      obj := fun p L b m hp hcur => by
        obtain ⟨h1, rfl, rfl⟩ := hinl hcur
        exact relO_mono hbel (H0'.obj p L hp)
      inj := fun p q L M b b' m m' hp hq hcp hcq hb hb' e => by
        obtain ⟨h1, rfl, rfl⟩ := hinl hcp
        obtain ⟨h2, rfl, rfl⟩ := hinl hcq
        exact H0'.inj p q L M hp hq hb hb' e
      size := hf.size
      defers := hf.defers
      le := .refl φ
      hsize := Nat.le_refl _
      same := fun _ _ _ => rfl
      wr := fun r hr ⟨p, L, b, m, h1, h2, h3, h4⟩ => by
        obtain ⟨h5, rfl, rfl⟩ := hinl h3
        exact ⟨p, L, h1, h2, h4⟩
      lv := fun r hr ⟨p, L, b, m, h1, h2, h3, h4⟩ => by
        obtain ⟨h5, rfl, rfl⟩ := hinl h3
        exact ⟨p, L, h1, h2, h4⟩
      ids := fun p L hp hn => by rw [hp] at hn; cases hn
      tape := rfl
      os := rfl
      output := rfl }
  · exact fun l hnd hl => nodup_le _ l hnd fun i hi => (hl i hi).1

end
end
end Go.Ev
