/- Operations that look at the heap, and that write cells that are there. -/
import Derived.Test.YtbofkbhobcahiaaGreatEvHp
import Derived.Test.YtbofkbhobcahiaaGreatEvPop
import Derived.Laws.Cells
import Derived.Laws.IdiomCopy
import Derived.Laws.BytesString
namespace Go.Ev
noncomputable section
section
variable {P : Program} {φ : Phi} {ρ : Opd → GV} {a : Act} {o : Oper} {h : Heap} {w : World}

/-- A piece of a row, in the world. -/
theorem cells_of {l : List GV} {sz : Nat} {ro : Bool} {L : Loc} {c : Array Value} {T : TypeId} {fz : Nat × Nat} (R : RowRel φ w l sz ro L c T fz) (o n : Nat) (hle : o + n ≤ l.length) :
    ∃ vs : List Value, All2 (relC φ) ((l.drop o).take n) vs ∧ vs.length = n ∧ ∀ (j : Nat) (v : Value), vs[j]? = some v → w.cell? ⟨L.r, L.d + o + j, none⟩ = some v := by
  refine ⟨(List.range n).map fun j => (c[L.d + (o + j)]?).getD undef, ?_, by simp, ?_⟩
  · refine All2.of_get (by simp; omega) fun i g v hg hv => ?_
    rw [List.getElem?_take] at hg
    split at hg <;> try cases hg
    rename_i hi
    rw [List.getElem?_drop] at hg
    obtain ⟨u, hu, hr⟩ := R.cell (o + i) g hg
    simp only [List.getElem?_map, List.getElem?_range hi, Option.map_some, hu, Option.getD_some, Option.some.injEq] at hv
    subst hv; exact hr
  · intro j v hv
    by_cases hj : j < n
    · obtain ⟨g, hg⟩ : ∃ g, l[o + j]? = some g := ⟨l[o + j], List.getElem?_eq_getElem (by omega)⟩
      obtain ⟨u, hu, hr⟩ := R.cell (o + j) g hg
      simp only [List.getElem?_map, List.getElem?_range hj, Option.map_some, hu, Option.getD_some, Option.some.injEq] at hv
      subst hv
      have : L.d + o + j = L.d + (o + j) := by omega
      simp [World.cell?, R.at_, this, hu]
    · simp [List.getElem?_map, List.getElem?_eq_none, Nat.le_of_not_lt hj] at hv

theorem run_load_cell {A : Addr} {v : Value} (hv : w.cell? A = some v) : (load A).run P w = .ok v w := by rw [run_load, hv]
theorem addr_add (r o j : Nat) : (⟨r, o, none⟩ : Addr).add j = ⟨r, o + j, none⟩ := by unfold Addr.add; split <;> simp_all

theorem loadCells_ok {r o : Nat} {vs : List Value} (hc : ∀ (j : Nat) (v : Value), vs[j]? = some v → w.cell? ⟨r, o + j, none⟩ = some v) : (loadCells ⟨r, o, none⟩ vs.length).run P w = .ok vs.toArray w :=
  run_loadCells_list w _ vs fun j v hv => by rw [addr_add]; exact hc j v hv

theorem ld1_ok {x v : GV} {u : Value} {t : TypeId} (H : HRel φ h w) (hg : rLd1 x h = some v) (hx : rel φ x u) (ha : isAggT P t = some false) : ∃ r, (Instr.loadAt t u).run P w = .ok r w ∧ rel φ v r := by
  unfold rLd1 at hg
  obtain ⟨p, q, rfl, h1⟩ := asPtr_some hg
  obtain ⟨L, hp, rfl⟩ := hx
  obtain ⟨l, sz, ro, hr, hl⟩ := objGet_row h1
  obtain ⟨c, T, fz, R⟩ := H.row hp hr
  obtain ⟨r, hcell, hrel⟩ := R.cell? hl
  refine ⟨r, ?_, rel_of_C hrel⟩
  simp only [Instr.loadAt, Sem.run_bind, Instr.sureAddr, Sem.run_pure, Result.andThen_ok, loadVar, isAggT_some ha, Bool.false_eq_true, if_false]
  exact run_load_cell hcell
theorem ldN_ok {x v : GV} {u : Value} {t : TypeId} {n : Nat} (H : HRel φ h w) (hg : rLdN n x h = some v) (hx : rel φ x u) (ha : isAggT P t = some true) (hs : szOf P t = some n) :
    ∃ r, (Instr.loadAt t u).run P w = .ok r w ∧ rel φ v r := by
  unfold rLdN at hg
  obtain ⟨p, q, rfl, h1⟩ := asPtr_some hg
  obtain ⟨L, hp, rfl⟩ := hx
  obtain ⟨c0, h2, h3⟩ := obind_some h1
  rw [forceL_eq] at h3
  obtain rfl := Option.some.inj h3
  obtain ⟨l, sz, ro, hr, hle, hcs⟩ := objSub_row h2
  obtain ⟨c, T, fz, R⟩ := H.row hp hr
  obtain ⟨vs, hall, hlen, hcell⟩ := cells_of R q n hle
  refine ⟨.agg vs.toArray, ?_, ⟨vs.toArray, rfl, by rw [hcs]; exact hall⟩⟩
  simp only [Instr.loadAt, Sem.run_bind, Instr.sureAddr, Sem.run_pure, Result.andThen_ok, loadVar, isAggT_some ha, if_true, szOf_some hs]
  have := loadCells_ok (P := P) hcell
  rw [hlen] at this
  rw [this]; rfl

theorem packB_tb : ∀ (l : List UInt8) (n : Nat), (∀ i, i < l.length → pget 8 n i = (l[i]?.getD 0).toNat) → n < 256 ^ l.length → packB l = n
  | [], n, _, h => by simp at h; simp [packB, h]
  | b :: l, n, hg, h => by
    have h0 := hg 0 (by simp)
    have e0 : pget 8 n 0 = n % 256 := by show (n >>> (8 * 0)) % 2 ^ 8 = _; simp
    rw [e0] at h0
    have hl := packB_tb l (n / 256) (fun i hi => by
      have := hg (i + 1) (by simpa using hi)
      simp only [List.getElem?_cons_succ] at this
      rw [← this]
      show ((n / 256) >>> (8 * i)) % 2 ^ 8 = (n >>> (8 * (i + 1))) % 2 ^ 8
      rw [Nat.shiftRight_eq_div_pow, Nat.shiftRight_eq_div_pow, Nat.div_div_eq_div_mul, show 256 * 2 ^ (8 * i) = 2 ^ (8 * (i + 1)) by rw [Nat.mul_add, Nat.pow_add]; omega]) (by
      rw [List.length_cons, Nat.pow_succ] at h
      exact Nat.div_lt_of_lt_mul (by omega))
    simp only [List.getElem?_cons_zero, Option.getD_some] at h0
    rw [packB, hl]; omega

theorem foldl_push : ∀ (ns : List Int) (s : ByteArray), (ns.foldl (fun r n => r.push (UInt8.ofNat n.toNat)) s).data.toList = s.data.toList ++ ns.map fun n => UInt8.ofNat n.toNat
  | [], s => by simp
  | n :: ns, s => by
    rw [List.foldl_cons, foldl_push ns]
    simp [ByteArray.push]

theorem ints_of {k : IntKind} {w' n : Nat} : ∀ (len i : Nat) (vs : List Value), All2 (relC φ) (unpack k w' n i len) vs → vs = (List.range len).map fun j => Value.int k (pget w' n (i + j) : Int)
  | 0, i, vs, h => by
    cases vs with
    | nil => rfl
    | cons v vs => exact h.elim
  | len + 1, i, vs, h => by
    cases vs with
    | nil => exact h.elim
    | cons v vs =>
      obtain ⟨h1, h2⟩ := h
      have h3 : v = .int k (pget w' n i : Int) := h1
      rw [ints_of len (i + 1) vs h2, h3, List.range_succ_eq_map]
      simp [Function.comp_def, Nat.add_assoc, Nat.add_comm 1]

theorem str_ok {x v : GV} {u : Value} (H : HRel φ h w) (hg : rStr x h = some v) (hx : rel φ x u) : ∃ r, (Conv.bytesToString u).run P w = .ok r w ∧ rel φ v r := by
  unfold rStr at hg
  split at hg
  · obtain rfl : u = .slice none 0 0 := hx
    obtain rfl := Option.some.inj hg
    exact ⟨.string .empty, rfl, ⟨.empty, rfl, rfl, rfl⟩⟩
  · obtain ⟨A, c, rfl⟩ := hx
    obtain rfl := Option.some.inj hg
    exact ⟨.string .empty, by unfold Conv.bytesToString; rfl, ⟨.empty, rfl, rfl, rfl⟩⟩
  · rename_i p q len cap e
    obtain ⟨L, cc, hp, rfl, -⟩ := hx
    obtain ⟨c0, h2, h3⟩ := obind_some hg
    obtain ⟨c1, h4, h5⟩ := obind_some h3
    obtain ⟨hcs1, len1, n1, rfl⟩ := csPack_ok h4
    simp only [force_eq, Option.some.injEq] at h5
    subst h5
    obtain ⟨l, sz, ro, hr, hle, hcs⟩ := objSub_row h2
    obtain ⟨c, T, fz, R⟩ := H.row hp hr
    obtain ⟨vs, hall, hlen, hcell⟩ := cells_of R q len hle
    rw [← hcs, ← hcs1] at hall
    have hlen1 : len1 = len := by
      have := hall.length
      simp only [csList, unpack_len] at this
      omega
    subst hlen1
    have hvs := ints_of (φ := φ) len1 0 vs hall
    have hload := loadCells_ok (P := P) hcell
    rw [hlen] at hload
    have hmap : vs.toArray = (((List.range len1).map fun j => (pget 8 n1 j : Int)).map (Value.int .u8)).toArray := by rw [hvs]; simp [Function.comp_def]
    rw [hmap] at hload
    refine ⟨_, run_bytesToString w _ len1 cc _ hload, ⟨_, rfl, ?_, ?_⟩⟩
    · rw [foldl_push]; simp
    · rw [foldl_push]
      refine packB_tb _ _ (fun i hi => ?_) ?_
      · have hi' : i < len1 := by simpa using hi
        rw [pget_psub hi', Nat.zero_add]
        have hlt : pget 8 n1 i < 256 := Nat.mod_lt _ (by decide)
        simp [List.getElem?_map, List.getElem?_range hi']
        omega
      · have : psub 8 n1 0 len1 < 2 ^ (8 * len1) := Nat.mod_lt _ (Nat.two_pow_pos _)
        simpa [Nat.pow_mul] using this
  · cases hg

theorem lenC_ok {x v : GV} {u : Value} {t : TypeId} {d : ChanDir} {e : TypeId} {ats : Array TypeId} {ty : TypeId} (H : HRel φ h w) (hg : rLenC x h = some v) (hx : rel φ x u) (ht : ats[0]? = some t) (hu : P.underlying t = some (.chan d e)) :
    ∃ r, (Builtin.len_ ats ty #[u]).run P w = .ok r w ∧ rel φ v r := by
  unfold rLenC at hg
  split at hg
  · obtain rfl : u = .chan none := hx
    obtain rfl := Option.some.inj hg
    exact ⟨.int .i64 0, by simp [Builtin.len_, ht, run_underlying hu, Sem.run_bind, goInt], rfl⟩
  · rename_i p
    obtain ⟨L, hp, rfl⟩ := hx
    split at hg
    · rename_i cap buf ho
      rw [force_eq] at hg
      obtain rfl := Option.some.inj hg
      have hobj := H.obj p L hp
      rw [hget_eq] at ho
      rw [ho] at hobj
      obtain ⟨b, s, r, hb, hall⟩ := hobj
      have hl : b.size = buf.length := by have := hall.length; simpa using this.symm
      refine ⟨.int .i64 buf.length, ?_, rfl⟩
      simp [Builtin.len_, ht, run_underlying hu, Sem.run_bind, goInt, getObj, Sem.run, hb, hl]
    · cases hg
  · cases hg

theorem compBin_p {op : BinOp} {t : TypeId} {x y : Opd} {g : GOp} (h : compBin P op t x y = some g) : ∃ p, g = .p p := by
  unfold compBin at h
  cases op <;> simp only [] at h <;>
    (repeat' (first | (obtain rfl := Option.some.inj h; exact ⟨_, rfl⟩) | (cases h; done) | split at h))

theorem rop_ok {g : ROp} {v : GV} (H : HRel φ h w) (hc : compOp P o = some (.r g)) (ho : Opnds φ ρ a o.op) (hg : rop ρ h g = some v) : ∃ u, (execOp a.eval o).run P w = .ok (.value u) w ∧ rel φ v u := by
  have hx := ho.x
  cases hop : o.op <;> rw [hop] at hx <;> simp only [compOp, hop] at hc
  case load t x =>
    split at hc <;> simp only [Option.some.injEq, GOp.r.injEq, reduceCtorEq] at hc
    · rename_i n y ha hs hy
      subst hc
      obtain ⟨u, hr, hrel⟩ := ldN_ok (P := P) H hg (hx x (by simp [Op.operands]) y hy) ha hs
      exact ⟨u, by simp only [execOp, hop]; exact run_v hr, hrel⟩
    · rename_i n y ha hs hy
      subst hc
      obtain ⟨u, hr, hrel⟩ := ld1_ok (P := P) H hg (hx x (by simp [Op.operands]) y hy) ha
      exact ⟨u, by simp only [execOp, hop]; exact run_v hr, hrel⟩
  case convert s d x =>
    split at hc <;> try cases hc
    · rename_i e y hs hd hy
      split at hc <;> simp only [Option.some.injEq, GOp.r.injEq, reduceCtorEq] at hc
      rename_i he
      subst hc
      have h1 := hx x (by simp [Op.operands]) y hy
      obtain ⟨u, hr, hrel⟩ := str_ok (P := P) H hg h1
      refine ⟨u, ?_, hrel⟩
      simp only [execOp, hop]
      refine run_v ?_
      have hsl : (∃ A n m, a.eval x = .slice A n m) := by
        simp only [rop, rStr] at hg
        split at hg
        · rename_i e1; rw [e1] at h1; exact ⟨_, _, _, h1⟩
        · rename_i e1; rw [e1] at h1; obtain ⟨A, c, hv⟩ := h1; exact ⟨_, _, _, hv⟩
        · rename_i e1; rw [e1] at h1; obtain ⟨L, c, -, hv, -⟩ := h1; exact ⟨_, _, _, hv⟩
        · cases hg
      obtain ⟨A, n, m, hsl⟩ := hsl
      rw [hsl] at hr ⊢
      simp only [convert, Sem.run_bind, run_underlying hs, run_underlying hd, run_underlying he, Result.andThen_ok]
      exact hr
    · split at hc <;> try cases hc
      split at hc <;> cases hc
  case call c =>
    split at hc <;> try cases hc
    · obtain ⟨y, hy, e⟩ := map_some hc
      cases e
    · rename_i b args hcal hargs
      have hall : ∀ x ∈ c.args.toList, ∀ y, compOpd x = some y → rel φ (ρ y) (a.eval x) := fun x hxm y hy => hx x (by simp [Op.operands, Call.operands, hcal]; exact by simpa using hxm) y hy
      have hrun : ∀ u, (Sem.run P (builtin b c.argTypes o.type (c.args.map fun | .const _ => true | _ => false) (c.args.map a.eval)) w = .ok (.value u) w) → (execOp a.eval o).run P w = .ok (.value u) w := by
        intro u h
        simp only [execOp, hop, resolve, hcal, Sem.run_bind, Sem.run_pure, Result.andThen_ok, invoke]
        exact h
      have hvals := compOpds_all2 (ρ := ρ) (a := a) hargs hall
      have hmap : (c.args.map a.eval) = (c.args.toList.map a.eval).toArray := by rw [← Array.toList_map]
      split at hc <;> try cases hc
      · rename_i y d e hat
        obtain ⟨t, ht, hu⟩ := map_some hat
        match hl : c.args.toList.map a.eval, hvals with
        | [u], hv =>
          rw [hmap, hl] at hrun
          obtain ⟨r, hr, hrel⟩ := lenC_ok (P := P) (ty := o.type) H hg hv.1 ht hu
          exact ⟨r, hrun _ (run_v hr), hrel⟩
      · split at hc <;> try cases hc
        split at hc <;> cases hc
      · obtain ⟨_, _, e⟩ := map_some hc; cases e
      · split at hc <;> try cases hc
        split at hc <;> cases hc
  all_goals first
    | (cases hc; done)
    | (obtain ⟨_, _, e⟩ := map_some hc; cases e; done)
    | skip
  all_goals
    (repeat' (first | (cases hc; done) | (obtain ⟨_, _, e⟩ := map_some hc; cases e; done) | (obtain ⟨_, e⟩ := compBin_p hc; cases e; done) | (split at hc; skip)))

end
end
end Go.Ev
