/- Copying, clearing, converting, making channels; every operation that lays blocks. -/
import Derived.Test.YtbofkbhobcahiaaGreatEvNop3
namespace Go.Ev
noncomputable section
section
variable {P : Program} {φ : Phi} {ρ : Opd → GV} {a : Act} {o : Oper} {h : Heap} {w : World}

theorem slice_val {x : GV} {u : Value} {n : Nat} (hx : rel φ x u) (hn : slLen x (fun k => if k = n then some () else none) = some ()) : ∃ B c, u = .slice B n c := by
  unfold slLen at hn
  split at hn
  · dsimp only at hn
    split at hn
    · rename_i e; subst e; exact ⟨none, 0, hx⟩
    · cases hn
  · dsimp only at hn
    split at hn
    · rename_i e; subst e; obtain ⟨A, c, rfl⟩ := hx; exact ⟨some A, c, rfl⟩
    · cases hn
  · dsimp only at hn
    split at hn
    · rename_i e; subst e; obtain ⟨L, c, _, rfl, -⟩ := hx; exact ⟨_, c, rfl⟩
    · cases hn
  · cases hn
theorem firstCells_zero (sz : Nat) (B : Option Addr) (n c : Nat) (w : World) : (Builtin.firstCells sz 0 (.slice B n c)).run P w = .ok #[] w := by
  cases B with
  | none => rfl
  | some A =>
    have := run_firstCells_some (P := P) w sz 0 A n c [] (by simp) (by simp)
    simpa using this

theorem copy_ok {ts : Array TypeId} {t ty e : TypeId} {sz : Nat} {d x v : GV} {ud ux : Value} {h' : Heap} (H : HRel φ h w) (h0 : ts[0]? = some t) (hu : P.underlying t = some (.slice e)) (hs : szOf P e = some sz) (hd : rel φ d ud) (hx : rel φ x ux)
    (hg : nCopy sz d x h = some (v, h')) : NOK P φ h w (Builtin.copy_ ts ty #[ud, ux]) v h' := by
  unfold nCopy at hg
  obtain ⟨m, hg1, hdl⟩ := slLen_some hg
  obtain ⟨n, hg2, hxl⟩ := slLen_some hg1
  rw [force_eq] at hg2
  obtain ⟨D, dc, rfl⟩ := slice_val hd hdl
  obtain ⟨X, xc, rfl⟩ := slice_val hx hxl
  have hmin : ifb (Nat.ble n m) n m = Nat.min n m := by
    rw [ifb_eq]
    show _ = min n m
    split
    · rename_i h; have := nat_ble h; omega
    · rename_i h
      have : ¬ n ≤ m := fun h' => h (by simpa [Nat.ble_eq] using h')
      omega
  rw [hmin, ifb_eq] at hg2
  have hs' : ∀ w, (sizeOf e).run P w = .ok sz w := szOf_some hs
  split at hg2
  · rename_i hk
    have hk := nat_beq hk
    simp only [Option.some.injEq, Prod.mk.injEq] at hg2
    obtain ⟨rfl, rfl⟩ := hg2
    have hf := firstCells_zero (P := P) sz X n xc w
    refine ⟨goInt 0, w, φ, ?_, rfl, H, .refl _ _ _⟩
    cases D with
    | none => simp [Builtin.copy_, h0, run_underlying hu, Builtin.lenOf, hk, hs', hf]
    | some A => simp [Builtin.copy_, h0, run_underlying hu, Builtin.lenOf, hk, hs', hf, storeCells]
  · split at hg2
    · rename_i p q l1 c1 e1 p' q' l2 c2 e2
      obtain ⟨c, hc, hg3⟩ := obind_some hg2
      obtain ⟨b, hb, hg4⟩ := obind_some hg3
      obtain ⟨h2, hh, hg5⟩ := obind_some hg4
      rw [hset_eq] at hh
      obtain rfl := Option.some.inj hh
      simp only [Option.some.injEq, Prod.mk.injEq] at hg5
      obtain ⟨rfl, rfl⟩ := hg5
      obtain ⟨L, cc, hp, hv, -⟩ := hd
      obtain ⟨L', cc', hp', hv', -⟩ := hx
      simp only [Value.slice.injEq] at hv hv'
      obtain ⟨rfl, rfl, rfl⟩ := hv
      obtain ⟨rfl, rfl, rfl⟩ := hv'
      obtain ⟨l, sz', ro, hr, hle, hcs⟩ := objSub_row hc
      obtain ⟨c', T, fz, R⟩ := H.row hp' hr
      obtain ⟨vs, hall, hlen, hcell⟩ := cells_of R q' (Nat.min n m * sz) hle
      have hcs : csList c = List.take (Nat.min n m * sz) (List.drop q' l) := hcs
      rw [← hcs] at hall
      obtain ⟨l2, sz2, hr2, hle2, hr2'⟩ := objSpl_row hb
      obtain ⟨w', hw, hH, hF⟩ := store_ok (P := P) H hp hr2 hr2' hle2 rfl hall
      have hf := run_firstCells_some (P := P) w sz (Nat.min n m) ⟨L'.r, L'.d + q', none⟩ n xc vs hlen (fun j v hv => by rw [addr_add]; exact hcell j v hv)
      refine ⟨goInt (Nat.min n m), w', φ, ?_, rfl, hH, hF⟩
      simp [Builtin.copy_, h0, run_underlying hu, Builtin.lenOf, hs', hf, hw]
    · cases hg2

theorem clear_ok {ts : Array TypeId} {t ty e : TypeId} {sz : Nat} {z : List GV} {x v : GV} {u : Value} {h' : Heap} (H : HRel φ h w) (h0 : ts[0]? = some t) (hu : P.underlying t = some (.slice e)) (hz : zeroOf P e = some z) (hzl : z.length = sz)
    (hzo : zOk (pkOf P e) z = true) (hx : rel φ x u) (hg : nClear z sz (pkOf P e) x h = some (v, h')) : NOK P φ h w (Builtin.clear_ ts ty #[u]) v h' := by
  unfold nClear at hg
  obtain ⟨n, hg1, hl⟩ := slLen_some hg
  obtain ⟨B, cc, rfl⟩ := slice_val hx hl
  rw [ifb_eq] at hg1
  split at hg1
  · rename_i hn
    obtain rfl := nat_beq hn
    simp only [Option.some.injEq, Prod.mk.injEq] at hg1
    obtain ⟨rfl, rfl⟩ := hg1
    refine ⟨.tuple #[], w, φ, ?_, ⟨#[], rfl, trivial⟩, H, .refl _ _ _⟩
    cases B <;> simp [Builtin.clear_, h0, run_underlying hu]
  · rename_i hn
    split at hg1
    · rename_i p q l1 c1 e1
      obtain ⟨b, hb, hg2⟩ := obind_some hg1
      obtain ⟨h2, hh, hg3⟩ := obind_some hg2
      rw [hset_eq] at hh
      obtain rfl := Option.some.inj hh
      simp only [Option.some.injEq, Prod.mk.injEq] at hg3
      obtain ⟨rfl, rfl⟩ := hg3
      obtain ⟨L, cc', hp, hv, -⟩ := hx
      simp only [Value.slice.injEq] at hv
      obtain ⟨rfl, rfl, rfl⟩ := hv
      obtain ⟨i, zv, hi, hzv, hzc⟩ := zeroOf_some hz
      have hall : All2 (relC φ) z zv.cells.toList := ofCells_ok hzc
      have hzs := zeros_ok hall n
      rw [← zeroCs_list hzo] at hzs
      obtain ⟨l, sz', hr, hle, hr'⟩ := objSpl_row hb
      obtain ⟨w', hw, hH, hF⟩ := store_ok (P := P) H hp hr hr' hle rfl hzs
      have hzr : ∀ w, (zeroValue e).run P w = .ok zv w := fun w => run_zeroOf hi hzv
      refine ⟨.tuple #[], w', φ, ?_, ⟨#[], rfl, trivial⟩, hH, hF⟩
      have hn0 : n ≠ 0 := fun e => hn (by rw [e]; rfl)
      obtain ⟨k, rfl⟩ := Nat.exists_eq_succ_of_ne_zero hn0
      have hw2 : (storeCells ⟨L.r, L.d + q, none⟩ (Builtin.zeroCells zv.cells (k + 1)).toList).run P w = .ok () w' := hw
      simp [Builtin.clear_, h0, run_underlying hu, hzr, hw2]
    · cases hg1

theorem conv_ok {x v : GV} {s d e : TypeId} {e0 : TypeId} {u : Value} {h' : Heap} (H : HRel φ h w) (hs : P.underlying s = some (.slice e0)) (hd : P.underlying d = some (.slice e)) (hsd : (s == d) = true) (he : P.underlying e = some (.int .u8)) (hx : rel φ x u)
    (hg : nConv x h = some (v, h')) : NOK P φ h w (convert s d u) v h' := by
  unfold nConv at hg
  split at hg <;> try cases hg
  rename_i p q len cap ee
  obtain ⟨g1, hg1⟩ := ifb_some hg
  obtain ⟨g2, hg2⟩ := ifb_some hg1
  simp only [Option.some.injEq, Prod.mk.injEq] at hg2
  obtain ⟨rfl, rfl⟩ := hg2
  have hx0 := hx
  obtain ⟨L, cc, hp, rfl, -⟩ := hx
  obtain ⟨l, sz, hr⟩ : ∃ l sz, (hget p h).row = some (l, sz, false) := by
    cases ho : hget p h <;> rw [ho] at g1 g2 <;> simp only [GObj.isRow, GObj.wr, Bool.not_eq_true', reduceCtorEq] at g1 g2
    · subst g2; exact ⟨_, _, rfl⟩
    · subst g2; exact ⟨_, _, rfl⟩
  obtain ⟨c, T, fz, R⟩ := H.row hp hr
  have hshape : w.shape? L.r = some (T, c.size) := by simp [World.shape?, R.at_]
  have hrun : (convert s d (.slice (some ⟨L.r, L.d + q, none⟩) len cc)).run P w = .ok (.slice (some ⟨L.r, L.d + q, none⟩) len cc) (w.freeze ⟨L.r, c.size, none⟩ 1) := by
    simp [convert, run_underlying hs, run_underlying hd, run_underlying he, hsd, markStringish, hshape]
  have hlt : L.r < w.heap.size := (H.lt p L hp).1
  have ht : Turned w (w.freeze ⟨L.r, c.size, none⟩ 1) L.r c T (if fz.1 == fz.2 then (c.size, c.size + 1) else (min fz.1 c.size, max fz.2 (c.size + 1))) := by
    refine ⟨?_, fun s hs => ?_, ?_, rfl, rfl, rfl⟩
    · simp [World.freeze, Array.getElem?_modify, R.at_]
    · simp [World.freeze, Array.getElem?_modify, Ne.symm hs]
    · simp [World.freeze]
  -- the ghost heap stays, the row is rewritten as it was
  have hobj : ∀ q' M, φ q' = some M → relO φ (w.freeze ⟨L.r, c.size, none⟩ 1) (Tr.get .gone q' h.t) M := by
    intro q' M hq
    by_cases hqp : q' = p
    · subst hqp
      obtain rfl : L = M := by rw [hp] at hq; exact Option.some.inj hq
      rw [hget_eq] at hr
      refine (relO_row hr).2 ⟨c, T, _, ⟨ht.at_, R.size, R.elem, fun _ => ?_, R.cell⟩⟩
      rcases R.frz rfl with h1 | h1
      · simp [h1]
      · by_cases h2 : fz.1 = fz.2
        · simp [h2]
        · right; simp [h2, Nat.min_eq_right h1]
    · cases hl : (Tr.get GObj.gone q' h.t).live with
      | false => cases ho : Tr.get GObj.gone q' h.t <;> rw [ho] at hl <;> first | trivial | cases hl
      | true =>
        have hne : M.r ≠ L.r := fun e => hqp (H.inj q' p M L hq hp hl (by rw [hget_eq] at hr; exact live_row hr) e)
        exact relO_other (.refl φ) (ht.other _ hne) (H.obj q' M hq)
  refine ⟨_, _, φ, hrun, hx0, ⟨hobj, fun q' M hq => by rw [ht.size]; exact H.lt q' M hq, H.inj, H.new⟩, ⟨.refl φ, by rw [ht.size]; exact Nat.le_refl _, Nat.le_refl _, fun r _ hn => ?_, fun r _ hw => hw, fun r _ hw => hw, fun q M h1 h2 => by (rw [h1] at h2; cases h2), rfl, rfl, rfl⟩⟩
  refine ht.other r fun e => hn ⟨p, L, hp, e.symm, ?_⟩
  rw [hget_eq] at hr
  rw [wr_row hr]; rfl

/-- A new object of any kind. -/
theorem newAny_ok (H : HRel φ h w) {b : GObj} {L : Loc} {ob : Obj} {w' : World} (hL : L.r = w.heap.size) (hb : relO (φ.ins h.nx L) w' b L) (hw : w'.heap = w.heap.push ob) (htape : w'.tape = w.tape) (hos : w'.os = w.os) (hout : w'.output = w.output) :
    HRel (φ.ins h.nx L) ⟨Tr.set .gone b h.nx h.t, h.nx.succ⟩ w' ∧ Fr φ h w (φ.ins h.nx L) ⟨Tr.set .gone b h.nx h.t, h.nx.succ⟩ w' := by
  have hle := H.le_ins L
  have hold : ∀ r, r < w.heap.size → w'.heap[r]? = w.heap[r]? := fun r hr => by rw [hw, Array.getElem?_push_lt hr, Array.getElem?_eq_getElem hr]
  have hsize : w'.heap.size = w.heap.size + 1 := by rw [hw]; simp
  constructor
  · refine ⟨fun q M hq => ?_, fun q M hq => ?_, fun q s M M' hq hs h1 h2 e => ?_, fun q hq => ?_⟩
    · by_cases hqn : q = h.nx
      · subst hqn
        rw [Phi.ins_self] at hq
        obtain rfl := Option.some.inj hq
        rw [Tr.get_set]
        exact hb
      · rw [Phi.ins_ne hqn] at hq
        rw [Tr.get_set_ne _ _ _ _ _ hqn]
        exact relO_other hle (hold _ (H.lt q M hq).1) (H.obj q M hq)
    · rw [Pos.nat_succ, hsize]
      by_cases hqn : q = h.nx
      · subst hqn
        rw [Phi.ins_self] at hq
        obtain rfl := Option.some.inj hq
        omega
      · rw [Phi.ins_ne hqn] at hq
        have := H.lt q M hq
        omega
    · by_cases hqn : q = h.nx <;> by_cases hsn : s = h.nx
      · rw [hqn, hsn]
      · exfalso
        subst hqn
        rw [Phi.ins_self] at hq
        rw [Phi.ins_ne hsn] at hs
        obtain rfl := Option.some.inj hq
        have := (H.lt s M' hs).1
        omega
      · exfalso
        subst hsn
        rw [Phi.ins_self] at hs
        rw [Phi.ins_ne hqn] at hq
        obtain rfl := Option.some.inj hs
        have := (H.lt q M hq).1
        omega
      · rw [Phi.ins_ne hqn] at hq
        rw [Phi.ins_ne hsn] at hs
        simp only at h1 h2
        rw [Tr.get_set_ne _ _ _ _ _ hqn] at h1
        rw [Tr.get_set_ne _ _ _ _ _ hsn] at h2
        exact H.inj q s M M' hq hs h1 h2 e
    · simp only [Pos.nat_succ] at hq
      have : q ≠ h.nx := fun e => by subst e; omega
      simp only
      rw [Tr.get_set_ne _ _ _ _ _ this]
      exact H.new q (by omega)
  · refine ⟨hle, by omega, by rw [Pos.nat_succ]; omega, fun r hr _ => hold r hr, fun r hr hwr => ?_, fun r hr hwr => ?_, fun q M h1 h2 => ?_, htape, hos, hout⟩
    · obtain ⟨q, M, hq, he, hwq⟩ := hwr
      by_cases hqn : q = h.nx
      · subst hqn
        rw [Phi.ins_self] at hq
        obtain rfl := Option.some.inj hq
        omega
      · rw [Phi.ins_ne hqn] at hq
        simp only at hwq
        rw [Tr.get_set_ne _ _ _ _ _ hqn] at hwq
        exact ⟨q, M, hq, he, hwq⟩
    · obtain ⟨q, M, hq, he, hwq⟩ := hwr
      by_cases hqn : q = h.nx
      · subst hqn
        rw [Phi.ins_self] at hq
        obtain rfl := Option.some.inj hq
        omega
      · rw [Phi.ins_ne hqn] at hq
        simp only at hwq
        rw [Tr.get_set_ne _ _ _ _ _ hqn] at hwq
        exact ⟨q, M, hq, he, hwq⟩
    · by_cases hqn : q = h.nx
      · subst hqn; exact Nat.le_refl _
      · rw [Phi.ins_ne hqn] at h1; rw [h1] at h2; cases h2

theorem chan_ok {x v : GV} {t e : TypeId} {dir : ChanDir} {u : Value} {h' : Heap} (H : HRel φ h w) (hu : P.underlying t = some (.chan dir e)) (hb : byOf P e = some 1) (hx : rel φ x u) (hg : nChan x h = some (v, h')) : NOK P φ h w (Instr.makeChan t u) v h' := by
  unfold nChan at hg
  obtain ⟨k, n, rfl, hg1⟩ := asNat_some hg
  obtain ⟨g1, hg2⟩ := ifb_some hg1
  rw [hnew_eq] at hg2
  simp only [Option.some.injEq, Prod.mk.injEq] at hg2
  obtain ⟨rfl, rfl⟩ := hg2
  have g1 := nat_blt g1
  obtain ⟨i, hi, hbi⟩ := byOf_some hb
  obtain rfl : u = .int k (.ofNat n) := hx
  obtain ⟨h1, h2⟩ := newAny_ok H (b := .chan n []) (L := ⟨w.heap.size, 0, 0, 0⟩) (ob := .chan n #[] false 0 0 false) (w' := w.alloc (.chan n #[] false 0 0 false)) rfl ⟨#[], 0, 0, heap_alloc_new w _, trivial⟩ rfl rfl rfl rfl
  refine ⟨.chan (some w.heap.size), _, _, ?_, ⟨_, Phi.ins_self _ _ _, rfl⟩, h1, h2⟩
  have hcond : ¬ ((n : Int) < 0 ∨ (n : Int) > IntKind.i64.max ∨ ((1 : Nat) : Int) * (n : Int) > 2 ^ 48 - 112) := by
    simp [IntKind.max, IntKind.bits, IntKind.signed]; omega
  show (Instr.makeChan t (.int k (n : Int))).run P w = _
  simp only [Instr.makeChan, Sem.run_bind, run_asInt, Result.andThen_ok, run_underlying hu, run_info hi, hbi]
  rw [if_neg hcond]
  rfl

theorem run_v1 {s : Sem Value} {u : Value} {w' : World} (hs : s.run P w = .ok u w') : (do pure (Next.value (← s)) : Sem Next).run P w = .ok (.value u) w' := by
  rw [Sem.run_bind, hs]; rfl

theorem nop_ok {g : NOp} {v : GV} {h' : Heap} (H : HRel φ h w) (hc : compOp P o = some (.n g)) (ho : Opnds φ ρ a o.op) (hg : nop ρ h g = some (v, h')) :
    ∃ u w' φ', (execOp a.eval o).run P w = .ok (.value u) w' ∧ rel φ' v u ∧ HRel φ' h' w' ∧ Fr φ h w φ' h' w' := by
  have hx := ho.x
  have fin : ∀ {s : Sem Value}, NOK P φ h w s v h' → (execOp a.eval o = (do pure (Next.value (← s)))) → ∃ u w' φ', (execOp a.eval o).run P w = .ok (.value u) w' ∧ rel φ' v u ∧ HRel φ' h' w' ∧ Fr φ h w φ' h' w' := by
    rintro s ⟨u, w', φ', hr, h1, h2, h3⟩ e
    exact ⟨u, w', φ', by rw [e]; exact run_v1 hr, h1, h2, h3⟩
  cases hop : o.op <;> rw [hop] at hx <;> simp only [compOp, hop] at hc
  case alloc t =>
    obtain ⟨z, hz, e⟩ := map_some hc
    obtain rfl : NOp.alloc z = g := by cases e; rfl
    exact fin (alloc_ok H hz hg) (by simp only [execOp, hop])
  case box t x =>
    obtain ⟨y, hy, e⟩ := map_some hc
    obtain rfl : NOp.box y = g := by cases e; rfl
    exact fin (box_ok (e := t) H (hx x (by simp [Op.operands]) y hy) hg) (by simp only [execOp, hop])
  case buildSlice t len ps =>
    split at hc <;> try cases hc
    rename_i e hu
    split at hc <;> try cases hc
    rename_i n z hs hz
    split at hc <;> try cases hc
    rename_i hlen
    split at hc <;> try cases hc
    rename_i hzl
    obtain ⟨qs, hq, e⟩ := map_some hc
    cases e
    refine fin (buildS_ok (a := a) H hu hs hz (by simpa using hzl) hlen hq ?_ hg) (by simp only [execOp, hop])
    intro x hxm y hy
    exact hx x.2 (by simp only [Op.operands, List.mem_toArray, List.mem_map]; exact ⟨x, by simpa using hxm, rfl⟩) y hy
  case makeSlice t x y =>
    split at hc <;> try cases hc
    rename_i e x' y' hu hx' hy'
    split at hc <;> try cases hc
    rename_i n by_ z hs hb hz
    split at hc <;> try cases hc
    rename_i hzl
    simp only [Bool.and_eq_true, decide_eq_true_eq] at hzl
    exact fin (makeS_ok H hu hs hb hz hzl.1 hzl.2 (hx x (by simp [Op.operands]) _ hx') (hx y (by simp [Op.operands]) _ hy') hg) (by simp only [execOp, hop])
  case convert s d x =>
    split at hc <;> try cases hc
    · split at hc <;> try cases hc
    · split at hc <;> try cases hc
      rename_i e0 e y hs hd hy hsd
      split at hc <;> try cases hc
      rename_i he
      exact fin (conv_ok H hs hd hsd he (hx x (by simp [Op.operands]) y hy) hg) (by simp only [execOp, hop])
  case makeChan t x =>
    split at hc <;> try cases hc
    rename_i dir e n hu hn
    split at hc <;> try cases hc
    rename_i b hb
    split at hc <;> try cases hc
    rename_i hb1
    subst hb1
    exact fin (chan_ok H hu hb (hx x (by simp [Op.operands]) n hn) hg) (by simp only [execOp, hop])
  case call c =>
    split at hc <;> try cases hc
    · obtain ⟨y, hy, e⟩ := map_some hc
      cases e
    · rename_i b args hcal hargs
      have hall : ∀ x ∈ c.args.toList, ∀ y, compOpd x = some y → rel φ (ρ y) (a.eval x) := fun x hxm y hy => hx x (by simp [Op.operands, Call.operands, hcal]; exact by simpa using hxm) y hy
      have hrun : ∀ u w', (Sem.run P (builtin b c.argTypes o.type (c.args.map fun | .const _ => true | _ => false) (c.args.map a.eval)) w = .ok (.value u) w') → (execOp a.eval o).run P w = .ok (.value u) w' := by
        intro u w' h
        simp only [execOp, hop, resolve, hcal, Sem.run_bind, Sem.run_pure, Result.andThen_ok, invoke]
        exact h
      have hvals := compOpds_all2 (ρ := ρ) (a := a) hargs hall
      have hmap : (c.args.map a.eval) = (c.args.toList.map a.eval).toArray := by rw [← Array.toList_map]
      split at hc <;> try cases hc
      · rename_i x y e hat
        obtain ⟨t, ht, hu⟩ := map_some hat
        split at hc <;> try cases hc
        rename_i e2 n by_ hat2 hs hb
        obtain ⟨t2, ht2, hu2⟩ := map_some hat2
        split at hc <;> try cases hc
        rename_i hcond
        simp only [Bool.or_eq_true, decide_eq_true_eq, not_or, bne_iff_ne, ne_eq, Decidable.not_not] at hcond
        match hl : c.args.toList.map a.eval, hvals with
        | [u, u'], hv =>
          rw [hmap, hl] at hrun
          obtain ⟨r, w', φ', hr, h1, h2, h3⟩ := append_ok (ty := o.type) H ht ht2 hu hu2 hs hb hcond.2 hcond.1.1 hv.1 hv.2.1 hg
          exact ⟨r, w', φ', hrun _ _ (run_v1 hr), h1, h2, h3⟩
      · rename_i x y e hat
        obtain ⟨t, ht, hu⟩ := map_some hat
        obtain ⟨n, hs, e⟩ := map_some hc
        cases e
        match hl : c.args.toList.map a.eval, hvals with
        | [u, u'], hv =>
          rw [hmap, hl] at hrun
          obtain ⟨r, w', φ', hr, h1, h2, h3⟩ := copy_ok (ty := o.type) H ht hu hs hv.1 hv.2.1 hg
          exact ⟨r, w', φ', hrun _ _ (run_v1 hr), h1, h2, h3⟩
      · rename_i x e hat
        obtain ⟨t, ht, hu⟩ := map_some hat
        split at hc <;> try cases hc
        rename_i z n hz hs
        split at hc <;> try cases hc
        rename_i hcond
        simp only [Bool.and_eq_true, decide_eq_true_eq] at hcond
        match hl : c.args.toList.map a.eval, hvals with
        | [u], hv =>
          rw [hmap, hl] at hrun
          obtain ⟨r, w', φ', hr, h1, h2, h3⟩ := clear_ok (ty := o.type) H ht hu hz hcond.1 hcond.2 hv.1 hg
          exact ⟨r, w', φ', hrun _ _ (run_v1 hr), h1, h2, h3⟩
  all_goals first
    | (cases hc; done)
    | (obtain ⟨_, _, e⟩ := map_some hc; cases e; done)
    | skip
  all_goals
    (repeat' (first | (cases hc; done) | (obtain ⟨_, _, e⟩ := map_some hc; cases e; done) | (obtain ⟨_, e⟩ := compBin_p hc; cases e; done) | (split at hc; skip)))

end
end
end Go.Ev
