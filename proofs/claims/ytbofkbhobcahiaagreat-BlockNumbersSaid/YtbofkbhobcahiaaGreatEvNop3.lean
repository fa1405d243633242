/- Appending. -/
import Derived.Test.YtbofkbhobcahiaaGreatEvNop2
namespace Go.Ev
noncomputable section
section
variable {P : Program} {φ : Phi} {ρ : Opd → GV} {a : Act} {o : Oper} {h : Heap} {w : World}

theorem run_append_in {ts : Array TypeId} {t t2 ty e e2 : TypeId} {i : TypeInfo} (h0 : ts[0]? = some t) (h1 : ts[1]? = some t2) (hu : P.underlying t = some (.slice e)) (hu2 : P.underlying t2 = some (.slice e2)) (hi : P.info? e = some i)
    {A : Addr} {sLen sCap n : Nat} {x : Value} {news : List Value} (hl : ∀ w, (Builtin.lenOf x).run P w = .ok n w) (hx : (Builtin.firstCells i.size n x).run P w = .ok news.toArray w) (hroom : sLen + n ≤ sCap) {w' : World}
    (hs : (storeCells (A.add (sLen * i.size)) news).run P w = .ok () w') : (Builtin.append_ ts ty #[.slice (some A) sLen sCap, x]).run P w = .ok (.slice (some A) (sLen + n) sCap) w' := by
  simp [Builtin.append_, h0, h1, run_underlying hu, run_underlying hu2, sizeOf, typeInfo, hi, hl, hx, hroom, hs]
theorem run_append_none {ts : Array TypeId} {t t2 ty e e2 : TypeId} {i : TypeInfo} (h0 : ts[0]? = some t) (h1 : ts[1]? = some t2) (hu : P.underlying t = some (.slice e)) (hu2 : P.underlying t2 = some (.slice e2)) (hi : P.info? e = some i)
    {x : Value} {news : List Value} (hl : ∀ w, (Builtin.lenOf x).run P w = .ok 0 w) (hx : (Builtin.firstCells i.size 0 x).run P w = .ok news.toArray w) :
    (Builtin.append_ ts ty #[.slice none 0 0, x]).run P w = .ok (.slice none 0 0) w := by
  simp [Builtin.append_, h0, h1, run_underlying hu, run_underlying hu2, sizeOf, typeInfo, hi, hl, hx]
theorem run_append_new {ts : Array TypeId} {t t2 ty e e2 : TypeId} {i : TypeInfo} {zv : Value} (h0 : ts[0]? = some t) (h1 : ts[1]? = some t2) (hu : P.underlying t = some (.slice e)) (hu2 : P.underlying t2 = some (.slice e2)) (hi : P.info? e = some i)
    (hz : i.zero = some zv) {base : Option Addr} {sLen sCap n : Nat} {x : Value} {olds news : List Value} (hl : ∀ w, (Builtin.lenOf x).run P w = .ok n w)
    (hx : ∀ w', w'.heap = w.heap → (Builtin.firstCells i.size n x).run P w' = .ok news.toArray w') (ho : ∀ w', w'.heap = w.heap → (Builtin.firstCells i.size sLen (.slice base sLen sCap)).run P w' = .ok olds.toArray w')
    (hg : sCap < sLen + n) (hneed : sLen + n < 1099511627776) (hby : (sLen + n) * i.bytes < 1099511627776) :
    ∃ cap, sLen + n ≤ cap ∧ (Builtin.append_ ts ty #[.slice base sLen sCap, x]).run P w =
      .ok (.slice (some ⟨w.heap.size, 0, none⟩) (sLen + n) cap) (w.drew.alloc (.cells (olds.toArray ++ news.toArray ++ Builtin.zeroCells zv.cells (cap - (sLen + n))) e)) := by
  have hn : ¬ (sLen + n ≤ sCap) := by omega
  have h63' : ¬ (9223372036854775807 < ((sLen : Int) + (n : Int))) := by omega
  have hfit := growslice_fits hg (bytes := i.bytes) (by omega)
  have h48' : ¬ (281474976710656 < Builtin.nextslicecap (sLen + n) sCap * i.bytes) := by omega
  have hx' := hx w.drew rfl
  have ho' := ho w.drew rfl
  refine ⟨grownCap w (sLen + n) sCap e, grownCap_ge _ _ _ _, ?_⟩
  simp [Builtin.append_, h0, h1, run_underlying hu, run_underlying hu2, sizeOf, typeInfo, zeroValue, hi, hz, hl, hn, h63', h48', Question.forced, hx', ho', newRow, grownCap]
  congr 2
  apply Array.ext'
  simp [List.append_assoc]

/-- The cells of a row laid by append. -/
theorem newRow_cells {l : List GV} {olds news : List Value} {ol nl : List GV} {z : Array Value} (ho : All2 (relC φ) ol olds) (hn : All2 (relC φ) nl news) (hl : l = ol ++ nl) :
    ∀ (i : Nat) (g : GV), l[i]? = some g → ∃ v, (olds.toArray ++ news.toArray ++ z)[i]? = some v ∧ relC φ g v := by
  intro i g hg
  subst hl
  obtain ⟨v, hv, hr⟩ := (ho.app hn).get i g hg
  refine ⟨v, ?_, hr⟩
  have hlt : i < (olds ++ news).length := by
    rcases Nat.lt_or_ge i (olds ++ news).length with h1 | h1
    · exact h1
    · rw [List.getElem?_eq_none h1] at hv; cases hv
  rw [Array.getElem?_append_left (by simpa using hlt)]
  simpa using hv

theorem sl_open {φ' : Phi} {p : Pos} {r n c len sz : Nat} (hp : φ' p = some ⟨r, 0, n, sz⟩) (hlen : len ≤ c) (hsz : sz ≠ 0) (hn : c * sz ≤ n) : rel φ' (.sl p 0 len len sz) (.slice (some ⟨r, 0, none⟩) len c) :=
  ⟨_, c, hp, rfl, hlen, fun h => absurd h hsz, fun _ => by show 0 + 0 + c * sz ≤ n; omega⟩

theorem append_ok {ts : Array TypeId} {t t2 ty e e2 : TypeId} {sz by_ : Nat} {pk : PK} {s x v : GV} {us ux : Value} {h' : Heap} (H : HRel φ h w) (h0 : ts[0]? = some t) (h1 : ts[1]? = some t2) (hu : P.underlying t = some (.slice e))
    (hu2 : P.underlying t2 = some (.slice e2)) (hs : szOf P e = some sz) (hb : byOf P e = some by_) (hz : (zeroOf P e).map (·.length) = some sz) (hsz : sz ≠ 0) (hxs : rel φ s us) (hxx : rel φ x ux)
    (hg : nAppend sz by_ pk s x h = some (v, h')) : NOK P φ h w (Builtin.append_ ts ty #[us, ux]) v h' := by
  unfold nAppend at hg
  obtain ⟨n, hg1, hsl⟩ := slLen_some hg
  obtain ⟨c, hc, hg2⟩ := obind_some hg1
  obtain ⟨hlen, news, hnall, hnlen, hnrun⟩ := src_ok (P := P) H hxx hsl hc
  obtain ⟨i, hi, hbi⟩ := byOf_some hb
  have his := szOf_info hs hi
  subst his
  have hzv : ∃ zv, i.zero = some zv ∧ zv.cells.size = i.size := by
    obtain ⟨z, hz0, hzl⟩ := map_some hz
    obtain ⟨i', zv, hi', hzv, hzc⟩ := zeroOf_some hz0
    obtain rfl : i = i' := by rw [hi] at hi'; exact Option.some.inj hi'
    have hall : All2 (relC φ) z zv.cells.toList := ofCells_ok hzc
    have := hall.length
    simp only [Array.length_toList] at this
    exact ⟨zv, hzv, by rw [← this]; exact hzl⟩
  obtain ⟨zv, hzv, hzsz⟩ := hzv
  -- a new row
  have lay : ∀ {base : Option Addr} {sLen sCap : Nat} {olds : List Value} {ol l : List GV} {b : GObj} {h1' : Heap}, HRel φ h1' w → Fr φ h w φ h1' w → us = .slice base sLen sCap →
      (∀ w', w'.heap = w.heap → (Builtin.firstCells i.size sLen (.slice base sLen sCap)).run P w' = .ok olds.toArray w') → All2 (relC φ) ol olds → olds.length = sLen * i.size → l = ol ++ csList c → b.row = some (l, i.size, false) →
      sCap < sLen + n → sLen + n < 1099511627776 → (sLen + n) * by_ < 1099511627776 →
      NOK P φ h w (Builtin.append_ ts ty #[us, ux]) (.sl h1'.nx 0 (sLen + n) (sLen + n) i.size) ⟨Tr.set .gone b h1'.nx h1'.t, h1'.nx.succ⟩ := by
    intro base sLen sCap olds ol l b h1' H1 F1 hus hor hoall holen hl hrow hcap hneed hby
    obtain ⟨cap, hge, hrun⟩ := run_append_new (ty := ty) h0 h1 hu hu2 hi hzv (x := ux) (news := news) hlen hnrun hor hcap hneed (by rw [hbi]; exact hby)
    obtain ⟨g1, g2⟩ := new_ok H1 (c := olds.toArray ++ news.toArray ++ Builtin.zeroCells zv.cells (cap - (sLen + n))) (T := e) (w' := w.drew.alloc (.cells (olds.toArray ++ news.toArray ++ Builtin.zeroCells zv.cells (cap - (sLen + n))) e)) hrow rfl rfl rfl rfl
      (newRow_cells hoall hnall hl)
    refine ⟨_, _, _, by rw [hus]; exact hrun, sl_open (Phi.ins_self _ _ _) hge hsz ?_, g1, F1.trans g2⟩
    simp only [Array.size_append, List.size_toArray, size_zeroCells, hzsz, holen, hnlen]
    rw [← Nat.add_mul, ← Nat.add_mul, Nat.add_sub_cancel' hge]; exact Nat.le_refl _
  split at hg2
  · -- nil
    obtain rfl : us = .slice none 0 0 := hxs
    rw [ifb_eq] at hg2
    split at hg2
    · rename_i hn
      obtain rfl := nat_beq hn
      simp only [Option.some.injEq, Prod.mk.injEq] at hg2
      obtain ⟨rfl, rfl⟩ := hg2
      exact ⟨_, w, φ, run_append_none h0 h1 hu hu2 hi hlen (hnrun w rfl), rfl, H, .refl _ _ _⟩
    · rename_i hn
      obtain ⟨g1, hg3⟩ := ifb_some hg2
      obtain ⟨g2, hg4⟩ := ifb_some hg3
      obtain ⟨c', hc', hg5⟩ := obind_some hg4
      obtain ⟨b, hb', hg6⟩ := obind_some hg5
      rw [hnew_eq] at hg6
      simp only [Option.some.injEq, Prod.mk.injEq] at hg6
      obtain ⟨rfl, rfl⟩ := hg6
      have hrow := csObj_row hb'
      rw [optPack_ok hc'] at hrow
      have hn0 : 0 < n := by
        rcases Nat.eq_zero_or_pos n with h | h
        · exact absurd (by rw [h]; rfl) hn
        · exact h
      have := lay (base := none) (sLen := 0) (sCap := 0) (olds := []) (ol := []) H (.refl _ _ _) rfl (fun w' _ => rfl) trivial (by simp) rfl hrow (by omega) (by have := nat_blt g2; omega) (by rw [Nat.zero_add]; exact nat_blt g1)
      simpa using this
  · -- sle
    obtain ⟨g1, hg3⟩ := ifb_some hg2
    obtain rfl := nat_beq g1
    simp only [Option.some.injEq, Prod.mk.injEq] at hg3
    obtain ⟨rfl, rfl⟩ := hg3
    obtain ⟨A, cc, rfl⟩ := hxs
    have hn0 : news = [] := List.eq_nil_of_length_eq_zero (by omega)
    subst hn0
    exact ⟨_, w, φ, run_append_in h0 h1 hu hu2 hi hlen (hnrun w rfl) (by omega) (w' := w) rfl, ⟨A, cc, rfl⟩, H, .refl _ _ _⟩
  · rename_i p q len cap ee
    rw [force_eq] at hg2
    obtain ⟨L, cc, hp, rfl, hcc, hc0, hc1⟩ := hxs
    rw [ifb_eq] at hg2
    split at hg2
    · rename_i hroom
      have hroom : len + n ≤ cap := nat_ble hroom
      rw [ifb_eq] at hg2
      split at hg2
      · rename_i hn
        obtain rfl := nat_beq hn
        simp only [Option.some.injEq, Prod.mk.injEq] at hg2
        obtain ⟨rfl, rfl⟩ := hg2
        have hn0 : news = [] := List.eq_nil_of_length_eq_zero (by omega)
        subst hn0
        exact ⟨_, w, φ, run_append_in h0 h1 hu hu2 hi hlen (hnrun w rfl) (by omega) (w' := w) rfl, ⟨L, cc, hp, rfl, hcc, hc0, hc1⟩, H, .refl _ _ _⟩
      · obtain ⟨b, hb', hg3⟩ := obind_some hg2
        obtain ⟨h2, hh, hg4⟩ := obind_some hg3
        rw [hset_eq] at hh
        obtain rfl := Option.some.inj hh
        simp only [Option.some.injEq, Prod.mk.injEq] at hg4
        obtain ⟨rfl, rfl⟩ := hg4
        obtain ⟨l, sz', hr, hle, hr'⟩ := objSpl_row hb'
        obtain ⟨w', hw, hH, hF⟩ := store_ok (P := P) H hp hr hr' hle rfl hnall
        refine ⟨_, w', φ, run_append_in h0 h1 hu hu2 hi hlen (hnrun w rfl) (by omega) (w' := w') ?_, ⟨L, cc, hp, rfl, hcc, hc0, hc1⟩, hH, hF⟩
        rw [addr_add, Nat.add_assoc]; exact hw
    · rename_i hroom
      have hroom : ¬ (len + n ≤ cap) := fun h => hroom (by simpa [Nat.ble_eq] using h)
      obtain ⟨g1, hg3⟩ := ifb_some hg2
      obtain ⟨g2, hg4⟩ := ifb_some hg3
      obtain ⟨old, hold, hg5⟩ := obind_some hg4
      obtain ⟨old', hold', hg6⟩ := obind_some hg5
      obtain ⟨new', hnew', hg7⟩ := obind_some hg6
      obtain ⟨cat, hcat, hg8⟩ := obind_some hg7
      obtain ⟨b, hb', hg9⟩ := obind_some hg8
      have g1 : (len + n) * by_ < 1099511627776 := nat_blt g1
      have g2 : len + n < 1099511627776 := nat_blt g2
      have hrow := csObj_row hb'
      rw [csCat_ok hcat, optPack_ok hold', optPack_ok hnew'] at hrow
      obtain ⟨l, sz', ro, hr, hle, hcs⟩ := objSub_row hold
      have hle : q + len * i.size ≤ l.length := hle
      obtain ⟨c0, T, fz, R⟩ := H.row hp hr
      obtain ⟨olds, hoall, holen, hcell⟩ := cells_of R q (len * i.size) hle
      have hcs : csList old = List.take (len * i.size) (List.drop q l) := hcs
      rw [← hcs] at hoall
      have horun : ∀ w', w'.heap = w.heap → (Builtin.firstCells i.size len (.slice (some ⟨L.r, L.d + q, none⟩) len cc)).run P w' = .ok olds.toArray w' := by
        intro w' hw'
        refine run_firstCells_some (P := P) w' i.size len _ len cc olds holen fun j v hv => ?_
        rw [addr_add]
        have := hcell j v hv
        unfold World.cell? at this ⊢
        rw [hw']; exact this
      rw [ifb_eq] at hg9
      split at hg9
      · rename_i he
        rw [hnew_eq] at hg9
        simp only [Option.some.injEq, Prod.mk.injEq] at hg9
        obtain ⟨rfl, rfl⟩ := hg9
        have := hc0 (nat_beq he)
        subst this
        exact lay H (.refl _ _ _) rfl horun hoall holen rfl hrow (by omega) g2 g1
      · obtain ⟨g3, hg10⟩ := ifb_some hg9
        obtain rfl := nat_beq g3
        have hc1 := hc1 hsz
        -- the old block is given up
        have fin : ∀ {l : List GV}, (hget p h).row = some (l, i.size, false) → q + cap * i.size = l.length → v = .sl h.nx 0 (len + n) (len + n) i.size → h' = ⟨Tr.set .gone b h.nx (Tr.set .gone .gone p h.t), h.nx.succ⟩ →
            NOK P φ h w (Builtin.append_ ts ty #[.slice (some ⟨L.r, L.d + q, none⟩) len cc, ux]) v h' := by
          rintro l0 hr0 hl0 rfl rfl
          obtain ⟨c0, T, fz, R⟩ := H.row hp hr0
          obtain rfl : l = l0 := by rw [hr] at hr0; simpa using (by simpa using hr0 : l = l0 ∧ _).1
          by_cases hin : len + n ≤ cc
          · -- in place
            have hfit : L.d + (q + len * i.size) + news.length ≤ c0.size := by
              have e1 : (len + n) * i.size ≤ cc * i.size := Nat.mul_le_mul_right _ hin
              rw [Nat.add_mul] at e1
              have := R.size
              omega
            obtain ⟨c', ht, hcsz, hget⟩ := setCells_turned news (L.d + (q + len * i.size)) w c0 R.at_ hfit
            have hst : (storeCells ⟨L.r, L.d + (q + len * i.size), none⟩ news).run P w = .ok () (w.setCells L.r (L.d + (q + len * i.size)) news) := by
              have := run_storeCells_cells (P := P) L.r (L.d + (q + len * i.size)) news 0 w (fun j hj => ?_) (fun j hj => ?_) (fun v hv => ?_)
              · simpa using this
              · have : L.d + (q + len * i.size) + 0 + j < c0.size := by omega
                simp only [World.cell?, R.at_]
                rw [Array.getElem?_eq_getElem this]; rfl
              · have := R.free (L.d + (q + len * i.size) + j) (by omega)
                simp only [World.frozen?, R.at_, Nat.add_zero]
                exact this
              · obtain ⟨g, hg⟩ := hnall.mem v hv
                exact relC_one hg
            have hcells : ∀ (j : Nat) (g : GV), (csList old ++ csList c)[j]? = some g → ∃ v, c'[L.d + q + j]? = some v ∧ relC φ g v := by
              intro j g hg
              rw [hget]
              have hol := hoall.length
              by_cases hj : j < len * i.size
              · rw [List.getElem?_append_left (by omega)] at hg
                rw [if_neg (by omega)]
                have : l[q + j]? = some g := by
                  rw [hcs, List.getElem?_take, if_pos hj, List.getElem?_drop] at hg
                  exact hg
                obtain ⟨v, hv, hrel⟩ := R.cell _ g this
                exact ⟨v, by rw [Nat.add_assoc]; exact hv, hrel⟩
              · rw [List.getElem?_append_right (by omega)] at hg
                obtain ⟨v, hv, hrel⟩ := hnall.get _ _ hg
                have hlt : j - (csList old).length < news.length := by
                  rcases Nat.lt_or_ge (j - (csList old).length) news.length with h1 | h1
                  · exact h1
                  · rw [List.getElem?_eq_none h1] at hv; cases hv
                exact ⟨v, by rw [if_pos (by omega), show L.d + q + j - (L.d + (q + len * i.size)) = j - (csList old).length by omega]; exact hv, hrel⟩
            obtain ⟨k1, k2⟩ := grow_ok H hp (o := q) hr0 hrow R ht hcsz hcells
            refine ⟨_, _, _, run_append_in h0 h1 hu hu2 hi hlen (hnrun w rfl) hin (w' := w.setCells L.r (L.d + (q + len * i.size)) news) ?_, ⟨_, cc, Phi.ins_self _ _ _, rfl, hin, fun h => absurd h hsz, fun _ => ?_⟩, k1, k2⟩
            · rw [addr_add, Nat.add_assoc]; exact hst
            · show L.d + q + 0 + cc * i.size ≤ L.n
              omega
          · obtain ⟨k1, k2⟩ := kill_ok H p
            exact lay k1 k2 rfl horun hoall holen rfl hrow (by omega) g2 g1
        split at hg10
        · rename_i l0 s0 ro0 hob
          obtain ⟨hro, hg11⟩ : ro0 = false ∧ _ := by
            cases ro0 with
            | true => cases hg10
            | false => exact ⟨rfl, hg10⟩
          subst hro
          obtain ⟨g4, hg12⟩ := ifb_some hg11
          obtain ⟨g5, hg13⟩ := ifb_some hg12
          obtain ⟨h2, hh, hg14⟩ := obind_some hg13
          rw [hset_eq] at hh
          obtain rfl := Option.some.inj hh
          rw [hnew_eq] at hg14
          simp only [Option.some.injEq, Prod.mk.injEq] at hg14
          obtain ⟨e1, e2⟩ := hg14
          have g4 := nat_beq g4
          refine fin (l := l0) (by rw [hob, ← g4]; rfl) (nat_beq g5) e1.symm e2.symm
        · rename_i k0 w0 m0 n0 ro0 hob
          obtain ⟨hro, hg11⟩ : ro0 = false ∧ _ := by
            cases ro0 with
            | true => cases hg10
            | false => exact ⟨rfl, hg10⟩
          subst hro
          obtain ⟨g4, hg12⟩ := ifb_some hg11
          obtain ⟨g5, hg13⟩ := ifb_some hg12
          obtain ⟨h2, hh, hg14⟩ := obind_some hg13
          rw [hset_eq] at hh
          obtain rfl := Option.some.inj hh
          rw [hnew_eq] at hg14
          simp only [Option.some.injEq, Prod.mk.injEq] at hg14
          obtain ⟨e1, e2⟩ := hg14
          have g4 := nat_beq g4
          have g5 : q + cap = m0 := nat_beq g5
          refine fin (l := unpack k0 w0 n0 0 m0) (by rw [hob, g4]; rfl) (by rw [unpack_len, g4]; omega) e1.symm e2.symm
        · cases hg10
  · cases hg2

end
end
end Go.Ev
