/- Operations that write cells that are there. -/
import Derived.Test.YtbofkbhobcahiaaGreatEvRop
namespace Go.Ev
noncomputable section
section
variable {P : Program} {φ : Phi} {ρ : Opd → GV} {a : Act} {o : Oper} {h : Heap} {w : World}

theorem setCell_turned {b i : Nat} {v : Value} {c : Array Value} {T : TypeId} {fz : Nat × Nat} (hb : w.heap[b]? = some (.cells c T fz)) :
    Turned w (w.setCell ⟨b, i, none⟩ v) b (c.setIfInBounds i v) T fz := by
  have hlt : b < w.heap.size := by
    rcases Nat.lt_or_ge b w.heap.size with h | h
    · exact h
    · rw [Array.getElem?_eq_none h] at hb; cases hb
  refine ⟨?_, fun s hs => ?_, ?_, rfl, rfl, rfl⟩
  · simp [World.setCell, Array.getElem?_modify, hb]
  · simp [World.setCell, Array.getElem?_modify, Ne.symm hs]
  · simp [World.setCell]
theorem setCells_turned {b : Nat} {T : TypeId} {fz : Nat × Nat} : ∀ (vs : List Value) (o : Nat) (w : World) (c : Array Value), w.heap[b]? = some (.cells c T fz) → o + vs.length ≤ c.size →
    ∃ c', Turned w (w.setCells b o vs) b c' T fz ∧ c'.size = c.size ∧ ∀ i, c'[i]? = if o ≤ i ∧ i < o + vs.length then vs[i - o]? else c[i]?
  | [], o, w, c, hb, _ => ⟨c, ⟨hb, fun _ _ => rfl, rfl, rfl, rfl, rfl⟩, rfl, fun i => by rw [if_neg (by simp)]⟩
  | v :: vs, o, w, c, hb, h => by
    have ht := setCell_turned (i := o) (v := v) hb
    obtain ⟨c', h1, h2, h3⟩ := setCells_turned vs (o + 1) _ _ ht.at_ (by simp at h ⊢; omega)
    refine ⟨c', ⟨h1.at_, fun s hs => (h1.other s hs).trans (ht.other s hs), h1.size.trans ht.size, h1.tape.trans ht.tape, h1.os.trans ht.os, h1.output.trans ht.output⟩, by rw [h2]; simp, fun i => ?_⟩
    rw [h3]
    simp only [List.length_cons] at h ⊢
    by_cases hi : i = o
    · subst hi
      rw [if_neg (by omega), if_pos (by omega)]
      simp [show i < c.size by omega]
    · by_cases hi2 : o + 1 ≤ i ∧ i < o + 1 + vs.length
      · rw [if_pos hi2, if_pos (by omega), show i - o = (i - (o + 1)) + 1 by omega, List.getElem?_cons_succ]
      · rw [if_neg hi2, if_neg (by omega), Array.getElem?_setIfInBounds_ne (Ne.symm hi)]

theorem relC_one {g : GV} {v : Value} (hr : relC φ g v) : v.oneCell' = true := by
  cases g <;> simp only [relC] at hr <;> first
    | exact hr.elim
    | (subst hr; rfl)
    | (obtain ⟨_, _, rfl, -, -⟩ := hr; rfl)
    | (obtain ⟨s, rfl, -⟩ := hr; rfl)
    | (obtain ⟨_, _, rfl⟩ := hr; rfl)
    | (obtain ⟨_, -, rfl⟩ := hr; rfl)
    | (obtain ⟨_, _, -, rfl, -⟩ := hr; rfl)
theorem All2.mem {α β : Type} {S : α → β → Prop} : ∀ {l : List α} {l' : List β}, All2 S l l' → ∀ b ∈ l', ∃ a, S a b
  | [], [], _, b, hb => by cases hb
  | a :: l, b :: l', h, c, hc => by
    rcases List.mem_cons.1 hc with rfl | hc
    · exact ⟨a, h.1⟩
    · exact h.2.mem c hc

/-- Cells of a row are stored, one behind the other, d cells in, from place u on; the ghost row is l', in which these cells are new. -/
theorem store_ok (H : HRel φ h w) {p : Pos} {L : Loc} (hp : φ p = some L) {l l' : List GV} {sz : Nat} {b' : GObj} {u : Nat} {cs : List GV} {vs : List Value}
    (hr : (hget p h).row = some (l, sz, false)) (hr' : b'.row = some (l', sz, false)) (hlen : u + cs.length ≤ l.length) (hl' : l' = l.take u ++ (cs ++ l.drop (u + cs.length))) (hvs : All2 (relC φ) cs vs) :
    ∃ w', (storeCells ⟨L.r, L.d + u, none⟩ vs).run P w = .ok () w' ∧ HRel φ ⟨Tr.set .gone b' p h.t, h.nx⟩ w' ∧ Fr φ h w φ ⟨Tr.set .gone b' p h.t, h.nx⟩ w' := by
  obtain ⟨c, T, fz, R⟩ := H.row hp hr
  have hvl := hvs.length
  have hsize : ∀ i, i < l.length → L.d + i < c.size := by
    intro i hi
    obtain ⟨v, hv, -⟩ := R.cell i l[i] (List.getElem?_eq_getElem hi)
    rcases Nat.lt_or_ge (L.d + i) c.size with h1 | h1
    · exact h1
    · rw [Array.getElem?_eq_none h1] at hv; cases hv
  by_cases hv0 : vs = []
  · subst hv0
    have hcs : cs = [] := by cases cs with
      | nil => rfl
      | cons x cs => simp at hvl
    subst hcs
    have hll : l' = l := by rw [hl']; simp
    refine ⟨w, rfl, ?_⟩
    refine upd_ok H hp hr hr' R ⟨R.at_, fun _ _ => rfl, rfl, rfl, rfl, rfl⟩ rfl fun i g hg => ?_
    rw [hll] at hg
    exact R.cell i g hg
  · have hpos : 0 < vs.length := by cases vs with
      | nil => exact absurd rfl hv0
      | cons => simp
    have hlast := hsize (u + cs.length - 1) (by omega)
    obtain ⟨c', ht, hcsz, hget⟩ := setCells_turned vs (L.d + u) w c R.at_ (by omega)
    refine ⟨w.setCells L.r (L.d + u) vs, ?_, ?_⟩
    · have := run_storeCells_cells (P := P) L.r (L.d + u) vs 0 w (fun j hj => ?_) (fun j hj => ?_) (fun v hv => ?_)
      · simpa using this
      · obtain ⟨v, hv, -⟩ := R.cell? (List.getElem?_eq_getElem (show u + j < l.length by omega))
        rw [show L.d + u + 0 + j = L.d + (u + j) by omega, hv]; rfl
      · have := R.free (L.d + u + j) (by have := hsize (u + j) (by omega); omega)
        simp only [World.frozen?, R.at_, Nat.add_zero]
        exact this
      · obtain ⟨g, hg⟩ := hvs.mem v hv
        exact relC_one hg
    · refine upd_ok H hp hr hr' R ht hcsz fun i g hg => ?_
      rw [hl'] at hg
      rw [hget]
      by_cases h1 : i < u
      · rw [List.getElem?_append_left (by simp; omega), List.getElem?_take, if_pos h1] at hg
        rw [if_neg (by omega)]
        exact R.cell i g hg
      · have e1 : (List.take u l).length = u := by simp; omega
        rw [List.getElem?_append_right (by omega), e1] at hg
        by_cases h2 : i < u + cs.length
        · rw [List.getElem?_append_left (by omega)] at hg
          obtain ⟨v, hv, hrel⟩ := hvs.get _ _ hg
          exact ⟨v, by rw [if_pos (by omega), show L.d + i - (L.d + u) = i - u by omega]; exact hv, hrel⟩
        · rw [List.getElem?_append_right (by omega), List.getElem?_drop, show u + cs.length + (i - u - cs.length) = i by omega] at hg
          rw [if_neg (by omega)]
          exact R.cell i g hg

theorem run_u {s : Sem Unit} {w' : World} (hs : s.run P w = .ok () w') : (do s; pure Next.skip : Sem Next).run P w = .ok .skip w' := by
  rw [Sem.run_bind, hs]; rfl

theorem cell_rel {v : GV} {u : Value} (hc : v.cell = true) (hr : rel φ v u) : relC φ v u := by
  cases v <;> first | exact hr | cases hc
theorem st1_ok {x v : GV} {u u' : Value} {t : TypeId} {h' : Heap} (H : HRel φ h w) (hg : wSt1 x v h = some h') (hx : rel φ x u) (hv : rel φ v u') (hs : szOf P t = some 1) :
    ∃ w', (Instr.storeAt t u u').run P w = .ok () w' ∧ HRel φ h' w' ∧ Fr φ h w φ h' w' := by
  unfold wSt1 at hg
  obtain ⟨p, q, rfl, h1⟩ := asPtr_some hg
  obtain ⟨L, hp, rfl⟩ := hx
  obtain ⟨b', h2, h3⟩ := obind_some h1
  rw [hset_eq] at h3
  obtain rfl := Option.some.inj h3
  obtain ⟨l, sz, hr, hlt, hcell, hr'⟩ := objSet_row h2
  have hvc := cell_rel hcell hv
  obtain ⟨w', hw, hH⟩ := store_ok (P := P) H hp (u := q) (cs := [v]) (vs := [u']) hr hr' (by simp only [List.length_singleton]; omega) (by
    rw [List.set_eq_take_append_cons_drop, if_pos hlt]; rfl) ⟨hvc, trivial⟩
  refine ⟨w', ?_, hH⟩
  have hcells := relC_cells hvc
  simp only [Instr.storeAt, Sem.run_bind, Instr.sureAddr, Sem.run_pure, Result.andThen_ok, storeVar, szOf_some hs, hcells]
  simpa using hw
theorem all_cell : ∀ {l : List GV} {vs : List Value}, All2 (relC φ) l vs → All2 (relC φ) l vs := fun h => h
theorem stN_ok {x v : GV} {u u' : Value} {t : TypeId} {n : Nat} {h' : Heap} (H : HRel φ h w) (hg : wStN n x v h = some h') (hx : rel φ x u) (hv : rel φ v u') (hs : szOf P t = some n) :
    ∃ w', (Instr.storeAt t u u').run P w = .ok () w' ∧ HRel φ h' w' ∧ Fr φ h w φ h' w' := by
  unfold wStN at hg
  obtain ⟨p, q, rfl, h1⟩ := asPtr_some hg
  obtain ⟨l0, rfl, h2⟩ := asAgg_some h1
  obtain ⟨hn, h3⟩ := ifb_some h2
  obtain ⟨-, h4⟩ := ifb_some h3
  obtain ⟨b', h5, h6⟩ := obind_some h4
  rw [hset_eq] at h6
  obtain rfl := Option.some.inj h6
  obtain ⟨L, hp, rfl⟩ := hx
  obtain ⟨cs, rfl, hall⟩ := rel_agg hv
  obtain ⟨l, sz, hr, hle, hr'⟩ := objSpl_row h5
  obtain ⟨w', hw, hH⟩ := store_ok (P := P) H hp (u := q) (cs := l0) (vs := cs.toList) hr hr' hle rfl hall
  refine ⟨w', ?_, hH⟩
  have hsz : cs.size = n := by
    have := hall.length
    have e := Nat.eq_of_beq_eq_true hn
    simp only [Array.length_toList] at this; omega
  simp only [Instr.storeAt, Sem.run_bind, Instr.sureAddr, Sem.run_pure, Result.andThen_ok, storeVar, szOf_some hs, Value.cells, hsz, ne_eq, not_true_eq_false, if_false]
  exact hw

theorem wop_ok {g : WOp} {h' : Heap} (H : HRel φ h w) (hc : compOp P o = some (.w g)) (ho : Opnds φ ρ a o.op) (hg : wop ρ h g = some h') :
    ∃ w', (execOp a.eval o).run P w = .ok .skip w' ∧ HRel φ h' w' ∧ Fr φ h w φ h' w' := by
  have hx := ho.x
  cases hop : o.op <;> rw [hop] at hx <;> simp only [compOp, hop] at hc
  case store t x v =>
    split at hc <;> try cases hc
    · rename_i n y v' ha hs hy hv
      obtain ⟨w', hr, hH⟩ := stN_ok (P := P) H hg (hx x (by simp [Op.operands]) y hy) (hx v (by simp [Op.operands]) v' hv) hs
      exact ⟨w', by simp only [execOp, hop]; exact run_u hr, hH⟩
    · rename_i n y v' ha hs hy hv
      split at hc <;> simp only [Option.some.injEq, GOp.w.injEq, reduceCtorEq] at hc
      rename_i hn
      subst hc hn
      obtain ⟨w', hr, hH⟩ := st1_ok (P := P) H hg (hx x (by simp [Op.operands]) y hy) (hx v (by simp [Op.operands]) v' hv) hs
      exact ⟨w', by simp only [execOp, hop]; exact run_u hr, hH⟩
  all_goals first
    | (cases hc; done)
    | (obtain ⟨_, _, e⟩ := map_some hc; cases e; done)
    | skip
  all_goals
    (repeat' (first | (cases hc; done) | (obtain ⟨_, _, e⟩ := map_some hc; cases e; done) | (obtain ⟨_, e⟩ := compBin_p hc; cases e; done) | (split at hc; skip)))

end
end
end Go.Ev
