/- Operations that lay new blocks: rows made, appended to, copied, cleared; channels. -/
import Derived.Test.YtbofkbhobcahiaaGreatEvNop
import Derived.Laws.AppendOwn
namespace Go.Ev
noncomputable section
section
variable {P : Program} {φ : Phi} {ρ : Opd → GV} {a : Act} {o : Oper} {h : Heap} {w : World}

theorem byOf_some {t : TypeId} {n : Nat} (h : byOf P t = some n) : ∃ i, P.info? t = some i ∧ i.bytes = n := by
  unfold byOf at h
  cases hi : P.info? t with
  | none => simp [hi] at h
  | some i => exact ⟨i, rfl, by simpa [hi] using h⟩
theorem run_info {t : TypeId} {i : TypeInfo} (hi : P.info? t = some i) : (typeInfo t).run P w = .ok i w := by simp [typeInfo, hi]
theorem szOf_info {t : TypeId} {n : Nat} {i : TypeInfo} (h : szOf P t = some n) (hi : P.info? t = some i) : i.size = n := by simpa [szOf, hi] using h
theorem nat_blt {a b : Nat} (h : Nat.blt a b = true) : a < b := by simpa [Nat.blt_eq] using h
theorem nat_ble {a b : Nat} (h : Nat.ble a b = true) : a ≤ b := by simpa [Nat.ble_eq] using h
theorem nat_beq {a b : Nat} (h : Nat.beq a b = true) : a = b := Nat.eq_of_beq_eq_true h
theorem wrap64 {n : Nat} (h : n < 1099511627776) : IntKind.i64.wrap (Int.ofNat n) = Int.ofNat n := wrap_small _ _ (by simp only [lim]; omega)

theorem makeS_ok {t e : TypeId} {z : List GV} {n by_ : Nat} {x y v : GV} {u u' : Value} {h' : Heap} (H : HRel φ h w) (hu : P.underlying t = some (.slice e)) (hs : szOf P e = some n) (hb : byOf P e = some by_)
    (hz : zeroOf P e = some z) (hzl : z.length = n) (hzo : zOk (pkOf P e) z = true) (hx : rel φ x u) (hy : rel φ y u') (hg : nMakeS z n by_ (pkOf P e) x y h = some (v, h')) : NOK P φ h w (Instr.makeSlice t u u') v h' := by
  unfold nMakeS at hg
  obtain ⟨k, l, rfl, hg1⟩ := asNat_some hg
  obtain ⟨k', c, rfl, hg2⟩ := asNat_some hg1
  obtain ⟨g1, hg3⟩ := ifb_some hg2
  obtain ⟨g2, hg4⟩ := ifb_some hg3
  obtain ⟨g3, hg5⟩ := ifb_some hg4
  obtain ⟨b, hb1, hg6⟩ := obind_some hg5
  rw [hnew_eq] at hg6
  simp only [Option.some.injEq, Prod.mk.injEq] at hg6
  obtain ⟨rfl, rfl⟩ := hg6
  obtain rfl : u = .int k (.ofNat l) := hx
  obtain rfl : u' = .int k' (.ofNat c) := hy
  have g1 := nat_ble g1
  have g2 : c * by_ < 1099511627776 := nat_blt g2
  have g3 := nat_blt g3
  obtain ⟨i, hi, hbi⟩ := byOf_some hb
  obtain ⟨i', zv, hi', hzv, hzc⟩ := zeroOf_some hz
  obtain rfl : i = i' := by rw [hi] at hi'; exact Option.some.inj hi'
  have hall : All2 (relC φ) z zv.cells.toList := ofCells_ok hzc
  have hsz : zv.cells.size = n := by have := hall.length; simp only [Array.length_toList] at this; omega
  have hrow := csObj_row hb1
  rw [zeroCs_list hzo] at hrow
  have hl : (IntKind.i64.wrap ((l : Nat) : Int)) = l := wrap64 (by omega)
  have hc : (IntKind.i64.wrap ((c : Nat) : Int)) = c := wrap64 g3
  have hcond : (decide ((c : Int) < 0) || decide ((i.bytes : Int) * (c : Int) > 2 ^ 48) || decide ((l : Int) < 0) || decide ((l : Int) > (c : Int))) = false := by
    have e1 : (i.bytes : Int) * (c : Int) = ((c * by_ : Nat) : Int) := by rw [hbi]; simp [Int.mul_comm]
    simp only [e1, Bool.or_eq_false_iff, decide_eq_false_iff_not]
    omega
  have key : ∀ zc : Array Value, (All2 (relC φ) (rep z c) ((Array.range (c * n)).map (zc[· % zc.size]!)).toList) → ((c * n = 0 ∧ zc = #[]) ∨ (¬ c * n = 0 ∧ zc = zv.cells)) →
      NOK P φ h w (Instr.makeSlice t (.int k (l : Int)) (.int k' (c : Int))) (.sl h.nx 0 l c 0) ⟨Tr.set .gone b h.nx h.t, h.nx.succ⟩ := by
    intro zc hzall hzrun
    obtain ⟨h1, h2⟩ := new_ok H (c := (Array.range (c * n)).map (zc[· % zc.size]!)) (T := e) (w' := w.alloc (.cells ((Array.range (c * n)).map (zc[· % zc.size]!)) e)) hrow rfl rfl rfl rfl (mem_rel hzall)
    refine ⟨.slice (some ⟨w.heap.size, 0, none⟩) l c, _, _, ?_, sl_new (Phi.ins_self _ _ _), h1, h2⟩
    have hn : ∀ w, ((sizeOf e).run P w) = .ok n w := szOf_some hs
    rcases hzrun with ⟨h0, rfl⟩ | ⟨h0, rfl⟩
    · simp only [Instr.makeSlice, Sem.run_bind, run_underlying hu, run_asInt, Result.andThen_ok, run_info hi, hl, hc, hcond, Bool.false_eq_true, if_false, run_askRoom, hn, Int.toNat_natCast, if_pos h0, Sem.run_pure, run_newRow]
    · simp only [Instr.makeSlice, Sem.run_bind, run_underlying hu, run_asInt, Result.andThen_ok, run_info hi, hl, hc, hcond, Bool.false_eq_true, if_false, run_askRoom, hn, Int.toNat_natCast, if_neg h0, Sem.run_pure, run_zeroOf hi hzv, run_newRow]
  by_cases h0 : c * n = 0
  · refine key #[] ?_ (.inl ⟨h0, rfl⟩)
    rw [h0]
    have hrep : rep z c = [] := by
      apply List.length_eq_zero_iff.1; rw [rep_len, hzl]; exact h0
    rw [hrep]; simp [All2]
  · refine key zv.cells ?_ (.inr ⟨h0, rfl⟩)
    have := zeros_ok hall c
    rw [hsz] at this
    rw [hsz]; exact this

/-- The elements of a slice. -/
theorem src_ok {x : GV} {u : Value} {sz n : Nat} {c : Cs} (H : HRel φ h w) (hx : rel φ x u) (hn : slLen x (fun k => if k = n then some () else none) = some ()) (hc : srcCs sz x h = some c) :
    (∀ w, (Builtin.lenOf u).run P w = .ok n w) ∧ ∃ vs : List Value, All2 (relC φ) (csList c) vs ∧ vs.length = n * sz ∧ ∀ w', w'.heap = w.heap → (Builtin.firstCells sz n u).run P w' = .ok vs.toArray w' := by
  unfold srcCs at hc
  split at hc
  · obtain rfl : u = .slice none 0 0 := hx
    obtain rfl := Option.some.inj hc
    have hn0 : 0 = n := by
      simp only [slLen] at hn
      split at hn
      · assumption
      · cases hn
    subst hn0
    exact ⟨fun _ => rfl, [], trivial, by simp, fun w' _ => rfl⟩
  · obtain ⟨A, cc, rfl⟩ := hx
    obtain rfl := Option.some.inj hc
    have hn0 : 0 = n := by
      simp only [slLen] at hn
      split at hn
      · assumption
      · cases hn
    subst hn0
    refine ⟨fun _ => rfl, [], trivial, by simp, fun w' _ => ?_⟩
    have := run_firstCells_some (P := P) w' sz 0 A 0 cc [] (by simp) (by simp)
    simpa using this
  · rename_i p q len cap e
    obtain ⟨L, cc, hp, rfl, -⟩ := hx
    have hn0 : len = n := by
      simp only [slLen] at hn
      split at hn
      · assumption
      · cases hn
    subst hn0
    obtain ⟨l, sz', ro, hr, hle, hcs⟩ := objSub_row hc
    obtain ⟨c', T, fz, R⟩ := H.row hp hr
    obtain ⟨vs, hall, hlen, hcell⟩ := cells_of R q (len * sz) hle
    refine ⟨fun _ => rfl, vs, by rw [hcs]; exact hall, hlen, fun w' hw' => ?_⟩
    refine run_firstCells_some (P := P) w' sz len _ len cc vs hlen fun j v hv => ?_
    rw [addr_add]
    have := hcell j v hv
    unfold World.cell? at this ⊢
    rw [hw']; exact this
  · cases hc
theorem slLen_some {β : Type} {x : GV} {f : Nat → Option β} {r : β} (h : slLen x f = some r) : ∃ n, f n = some r ∧ slLen x (fun k => if k = n then some () else none) = some () := by
  unfold slLen at h
  split at h
  · exact ⟨0, h, by simp [slLen]⟩
  · exact ⟨0, h, by simp [slLen]⟩
  · rename_i len _ _; exact ⟨len, h, by simp [slLen]⟩
  · cases h

/-- A block is given up. -/
theorem kill_ok (H : HRel φ h w) (p : Pos) : HRel φ ⟨Tr.set .gone .gone p h.t, h.nx⟩ w ∧ Fr φ h w φ ⟨Tr.set .gone .gone p h.t, h.nx⟩ w := by
  have get : ∀ q, Tr.get GObj.gone q (Tr.set .gone .gone p h.t) = .gone ∨ (q ≠ p ∧ Tr.get GObj.gone q (Tr.set .gone .gone p h.t) = Tr.get .gone q h.t) := by
    intro q
    by_cases hq : q = p
    · subst hq; exact .inl (Tr.get_set _ _ _ _)
    · exact .inr ⟨hq, Tr.get_set_ne _ _ _ _ _ hq⟩
  constructor
  · refine ⟨fun q M hq => ?_, H.lt, fun q s M M' hq hs h1 h2 e => ?_, fun q hq => ?_⟩
    · simp only
      rcases get q with e | ⟨-, e⟩
      · rw [e]; trivial
      · rw [e]; exact H.obj q M hq
    · simp only at h1 h2
      rcases get q with e1 | ⟨-, e1⟩
      · rw [e1] at h1; cases h1
      rcases get s with e2 | ⟨-, e2⟩
      · rw [e2] at h2; cases h2
      rw [e1] at h1; rw [e2] at h2
      exact H.inj q s M M' hq hs h1 h2 e
    · simp only
      rcases get q with e | ⟨-, e⟩
      · exact e
      · rw [e]; exact H.new q hq
  · refine ⟨.refl φ, Nat.le_refl _, Nat.le_refl _, fun _ _ _ => rfl, fun r _ hw => ?_, fun r _ hw => ?_, fun q M h1 h2 => by (rw [h1] at h2; cases h2), rfl, rfl, rfl⟩
    obtain ⟨q, M, hq, he, hwq⟩ := hw
    simp only at hwq
    rcases get q with e | ⟨-, e⟩
    · rw [e] at hwq; cases hwq
    · rw [e] at hwq; exact ⟨q, M, hq, he, hwq⟩
    obtain ⟨q, M, hq, he, hwq⟩ := hw
    simp only at hwq
    rcases get q with e | ⟨-, e⟩
    · rw [e] at hwq; cases hwq
    · rw [e] at hwq; exact ⟨q, M, hq, he, hwq⟩

/-- A row grows where it lies: the old ghost block is given up, a new one lies o cells further in the same block. -/
theorem grow_ok (H : HRel φ h w) {p : Pos} {L : Loc} (hp : φ p = some L) {l l' : List GV} {sz o : Nat} {b' : GObj} {c c' : Array Value} {T : TypeId} {fz : Nat × Nat} {w' : World}
    (hr : (hget p h).row = some (l, sz, false)) (hr' : b'.row = some (l', sz, false)) (R : RowRel φ w l sz false L c T fz) (ht : Turned w w' L.r c' T fz) (hsz : c'.size = c.size)
    (hc : ∀ (i : Nat) (g : GV), l'[i]? = some g → ∃ v, c'[L.d + o + i]? = some v ∧ relC φ g v) :
    HRel (φ.ins h.nx ⟨L.r, L.d + o, L.n, sz⟩) ⟨Tr.set .gone b' h.nx (Tr.set .gone .gone p h.t), h.nx.succ⟩ w' ∧ Fr φ h w (φ.ins h.nx ⟨L.r, L.d + o, L.n, sz⟩) ⟨Tr.set .gone b' h.nx (Tr.set .gone .gone p h.t), h.nx.succ⟩ w' := by
  rw [hget_eq] at hr
  have hlive := live_row hr
  have hle := H.le_ins ⟨L.r, L.d + o, L.n, sz⟩
  have hpn : p ≠ h.nx := fun e => by have := (H.lt p L hp).2; rw [e] at this; omega
  have get : ∀ q, q ≠ h.nx → q ≠ p → Tr.get GObj.gone q (Tr.set .gone b' h.nx (Tr.set .gone .gone p h.t)) = Tr.get .gone q h.t := by
    intro q h1 h2
    rw [Tr.get_set_ne _ _ _ _ _ h1, Tr.get_set_ne _ _ _ _ _ h2]
  have getp : Tr.get GObj.gone p (Tr.set .gone b' h.nx (Tr.set .gone .gone p h.t)) = .gone := by rw [Tr.get_set_ne _ _ _ _ _ hpn, Tr.get_set]
  have getn : Tr.get GObj.gone h.nx (Tr.set .gone b' h.nx (Tr.set .gone .gone p h.t)) = b' := Tr.get_set _ _ _ _
  have other : ∀ q M, q ≠ p → φ q = some M → (Tr.get GObj.gone q h.t).live = true → M.r ≠ L.r := fun q M hqp hq hl e => hqp (H.inj q p M L hq hp hl hlive e)
  constructor
  · refine ⟨fun q M hq => ?_, fun q M hq => ?_, fun q s M M' hq hs h1 h2 e => ?_, fun q hq => ?_⟩
    · by_cases hqn : q = h.nx
      · subst hqn
        rw [Phi.ins_self] at hq
        obtain rfl := Option.some.inj hq
        simp only
        rw [getn]
        refine (relO_row hr').2 ⟨c', T, fz, ⟨ht.at_, by rw [hsz]; exact R.size, rfl, fun e => by rw [hsz]; exact R.frz e, fun i g hg => ?_⟩⟩
        obtain ⟨v, hv, hrel⟩ := hc i g hg
        exact ⟨v, hv, hrel.mono hle⟩
      · rw [Phi.ins_ne hqn] at hq
        simp only
        by_cases hqp : q = p
        · subst hqp; rw [getp]; trivial
        · rw [get q hqn hqp]
          cases hg : (Tr.get GObj.gone q h.t).live with
          | false => cases ho : Tr.get GObj.gone q h.t <;> rw [ho] at hg <;> first | trivial | cases hg
          | true => exact relO_other hle (ht.other _ (other q M hqp hq hg)) (H.obj q M hq)
    · rw [ht.size, Pos.nat_succ]
      by_cases hqn : q = h.nx
      · subst hqn
        rw [Phi.ins_self] at hq
        obtain rfl := Option.some.inj hq
        exact ⟨(H.lt p L hp).1, by omega⟩
      · rw [Phi.ins_ne hqn] at hq
        have := H.lt q M hq
        omega
    · simp only at h1 h2
      have hqp : q ≠ p := fun e => by subst e; rw [getp] at h1; cases h1
      have hsp : s ≠ p := fun e => by subst e; rw [getp] at h2; cases h2
      by_cases hqn : q = h.nx <;> by_cases hsn : s = h.nx
      · rw [hqn, hsn]
      · exfalso
        subst hqn
        rw [Phi.ins_self] at hq
        obtain rfl := Option.some.inj hq
        rw [Phi.ins_ne hsn] at hs
        rw [get s hsn hsp] at h2
        exact other s M' hsp hs h2 e.symm
      · exfalso
        subst hsn
        rw [Phi.ins_self] at hs
        obtain rfl := Option.some.inj hs
        rw [Phi.ins_ne hqn] at hq
        rw [get q hqn hqp] at h1
        exact other q M hqp hq h1 e
      · rw [Phi.ins_ne hqn] at hq
        rw [Phi.ins_ne hsn] at hs
        rw [get q hqn hqp] at h1
        rw [get s hsn hsp] at h2
        exact H.inj q s M M' hq hs h1 h2 e
    · simp only [Pos.nat_succ] at hq ⊢
      have h1 : q ≠ h.nx := fun e => by subst e; omega
      have h2 : q ≠ p := fun e => by
        subst e
        have := (H.lt q L hp).2
        omega
      rw [get q h1 h2]
      exact H.new q (by omega)
  · refine ⟨hle, by rw [ht.size]; exact Nat.le_refl _, by rw [Pos.nat_succ]; omega, fun r _ hn => ?_, fun r _ hw => ?_, fun r _ hw => ?_, fun q M h1 h2 => ?_, ht.tape, ht.os, ht.output⟩
    · refine ht.other r fun e => hn ⟨p, L, hp, e.symm, ?_⟩
      rw [wr_row hr]; rfl
    · obtain ⟨q, M, hq, he, hwq⟩ := hw
      simp only at hwq
      by_cases hqn : q = h.nx
      · subst hqn
        rw [Phi.ins_self] at hq
        obtain rfl := Option.some.inj hq
        exact ⟨p, L, hp, he, by rw [wr_row hr]; rfl⟩
      · rw [Phi.ins_ne hqn] at hq
        by_cases hqp : q = p
        · subst hqp; rw [getp] at hwq; cases hwq
        · rw [get q hqn hqp] at hwq
          exact ⟨q, M, hq, he, hwq⟩
    · obtain ⟨q, M, hq, he, hwq⟩ := hw
      simp only at hwq
      by_cases hqn : q = h.nx
      · subst hqn
        rw [Phi.ins_self] at hq
        obtain rfl := Option.some.inj hq
        exact ⟨p, L, hp, he, hlive⟩
      · rw [Phi.ins_ne hqn] at hq
        by_cases hqp : q = p
        · subst hqp; rw [getp] at hwq; cases hwq
        · rw [get q hqn hqp] at hwq
          exact ⟨q, M, hq, he, hwq⟩
    · by_cases hqn : q = h.nx
      · subst hqn; exact Nat.le_refl _
      · rw [Phi.ins_ne hqn] at h1; rw [h1] at h2; cases h2

end
end
end Go.Ev
