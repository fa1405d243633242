/- Operations whose value hangs on their operands alone, continued: structs, comparisons, and all of them. -/
import Derived.Test.YtbofkbhobcahiaaGreatEvPops
import Derived.Laws.Tables
import Derived.Laws.Pointers
namespace Go.Ev
noncomputable section
section
variable {P : Program} {φ : Phi} {ρ : Opd → GV} {a : Act} {o : Oper} {w : World}

theorem relC_cells {g : GV} {v : Value} (h : relC φ g v) : v.cells = #[v] := by
  cases g <;> simp only [relC] at h <;> first
    | exact h.elim
    | (subst h; rfl)
    | (obtain ⟨s, rfl, -⟩ := h; rfl)
    | (obtain ⟨_, _, rfl⟩ := h; rfl)
    | (obtain ⟨_, -, rfl⟩ := h; rfl)
    | (obtain ⟨_, _, -, rfl, -⟩ := h; rfl)
    | (obtain ⟨_, _, rfl, -⟩ := h; rfl)
theorem cells_ok {v : GV} {c : List GV} {u : Value} (h : v.cells = some c) (hr : rel φ v u) : All2 (relC φ) c u.cells.toList := by
  cases v <;> simp only [GV.cells] at h <;> first
    | cases h; done
    | (obtain rfl := Option.some.inj h
       first
         | (obtain ⟨cs, rfl, hl⟩ := rel_agg hr; exact hl)
         | (simp only [rel, relA] at hr; rw [relC_cells hr]; exact ⟨hr, trivial⟩))

theorem foldl_set (off : Nat) : ∀ (l : List Value) (k : Nat) (cs : Array Value), off + k + l.length ≤ cs.size →
    ((l.zipIdx k).foldl (fun (cs : Array Value) (x : Value × Nat) => cs.setIfInBounds (off + x.2) x.1) cs).toList = cs.toList.take (off + k) ++ l ++ cs.toList.drop (off + k + l.length)
  | [], k, cs, _ => by simp
  | x :: l, k, cs, h => by
    simp only [List.zipIdx_cons, List.foldl_cons]
    rw [foldl_set off l (k + 1) _ (by simp at h ⊢; omega)]
    have h1 : off + k < cs.toList.length := by simp at h ⊢; omega
    have hA : (cs.toList.take (off + k)).length = off + k := by simp at h ⊢; omega
    simp only [Array.toList_setIfInBounds, List.set_eq_take_append_cons_drop, h1, if_true]
    have e1 : List.take (off + (k + 1)) (List.take (off + k) cs.toList ++ x :: List.drop (off + k + 1) cs.toList) = List.take (off + k) cs.toList ++ [x] := by
      rw [List.take_append, hA, List.take_of_length_le (by rw [hA]; omega), show off + (k + 1) - (off + k) = 1 by omega]
      simp
    have e2 : List.drop (off + (k + 1) + l.length) (List.take (off + k) cs.toList ++ x :: List.drop (off + k + 1) cs.toList) = List.drop (off + k + (x :: l).length) cs.toList := by
      rw [List.drop_append, hA, List.drop_of_length_le (by rw [hA]; omega), show off + (k + 1) + l.length - (off + k) = l.length + 1 by omega]
      simp only [List.nil_append, List.drop_succ_cons, List.drop_drop, List.length_cons]
      congr 1; omega
    rw [e1, e2]
    simp

theorem fill_ok {place : Nat → Option (Nat × Nat)} : ∀ {ps : List (Nat × Operand)} {qs : List (Nat × Nat × Opd)} {z l : List GV} {cs : Array Value}, compParts place ps = some qs →
    (∀ x ∈ ps, ∀ y, compOpd x.2 = some y → rel φ (ρ y) (a.eval x.2)) → fillL z (parts ρ qs) = some l → All2 (relC φ) z cs.toList →
    ∃ cs', Instr.fill place cs (ps.map fun x => (x.1, a.eval x.2)) = some cs' ∧ All2 (relC φ) l cs'.toList
  | [], qs, z, l, cs, h, _, hf, hz => by
    simp [compParts] at h; subst h
    simp [parts, fillL] at hf; subst hf
    exact ⟨cs, rfl, hz⟩
  | (i, x) :: ps, qs, z, l, cs, h, hx, hf, hz => by
    simp only [compParts] at h
    split at h <;> try cases h
    rename_i off n y qs' hp hy hq
    simp only [parts, fillL] at hf
    obtain ⟨c, hc, hf1⟩ := obind_some hf
    obtain ⟨hn, hf2⟩ := ifb_some hf1
    obtain ⟨hle, hf3⟩ := ifb_some hf2
    rw [forceL_eq] at hf3
    have hcells := cells_ok hc (hx (i, x) (by simp) y hy)
    have hn' : c.length = n := Nat.eq_of_beq_eq_true hn
    have hlen := hcells.length
    have hzl := hz.length
    have hle' : off + n ≤ z.length := by simpa using hle
    have hsz : (a.eval x).cells.size = n := by simpa [hn'] using hlen.symm
    have hcs : off + n ≤ cs.size := by simpa [hzl] using hle'
    obtain ⟨cs', hfill, hl⟩ := fill_ok (cs := (a.eval x).cells.zipIdx.foldl (fun cs (c, j) => cs.setIfInBounds (off + j) c) cs) hq (fun x' hx' => hx x' (by simp [hx'])) hf3 (by
      rw [← Array.foldl_toList, Array.toList_zipIdx]
      have := foldl_set off (a.eval x).cells.toList 0 cs (by simp [hsz]; omega)
      simp only [Nat.add_zero] at this
      rw [this, Array.length_toList, hsz]
      exact ((hz.take off).app hcells).app (hz.drop _))
    refine ⟨cs', ?_, hl⟩
    simp only [List.map_cons, Instr.fill, hp]
    rw [if_neg (by simp [hsz]; omega)]
    exact hfill
  termination_by ps => ps.length

/-- Zero cells. -/
theorem ofCell_ok {v : Value} {g : GV} (h : ofCell v = some g) : relC φ g v := by
  unfold ofCell at h
  split at h <;> first
    | (obtain rfl := Option.some.inj h; first | rfl | exact ⟨_, rfl, rfl, rfl⟩)
    | cases h
theorem ofCells_ok : ∀ {vs : List Value} {gs : List GV}, ofCells vs = some gs → All2 (relC φ) gs vs
  | [], gs, h => by simp [ofCells] at h; subst h; trivial
  | v :: vs, gs, h => by
    simp only [ofCells] at h
    split at h <;> try cases h
    rename_i g gs' h1 h2
    exact ⟨ofCell_ok h1, ofCells_ok h2⟩
theorem ofConst_ok {v : Value} {g : GV} (h : ofConst v = some g) : rel φ g v := by
  unfold ofConst at h
  split at h
  · rename_i cs
    simp only [Option.map_eq_some_iff] at h
    obtain ⟨gs, h1, rfl⟩ := h
    exact ⟨cs, rfl, ofCells_ok h1⟩
  · exact rel_of_C (ofCell_ok h)
theorem zeroOf_some {t : TypeId} {z : List GV} (h : zeroOf P t = some z) : ∃ i v, P.info? t = some i ∧ i.zero = some v ∧ ofCells v.cells.toList = some z := by
  unfold zeroOf at h
  split at h <;> try cases h
  rename_i i hi
  split at h <;> try cases h
  rename_i v hv
  exact ⟨i, v, hi, hv, h⟩
theorem run_zeroOf {t : TypeId} {i : TypeInfo} {v : Value} (hi : P.info? t = some i) (hz : i.zero = some v) : (zeroValue t).run P w = .ok v w := by
  simp [zeroValue, typeInfo, hi, hz]

theorem fill_congr {p q : Nat → Option (Nat × Nat)} (h : ∀ i, p i = q i) (cs : Array Value) (l : List (Nat × Value)) : Instr.fill p cs l = Instr.fill q cs l := by
  rw [show p = q from funext h]
theorem places_ok : ∀ (fs : List Field), (∀ f ∈ fs, (szOf P f.type).isSome = true) → ∃ places, fs.mapM (fun f => (P.info? f.type).map fun i => (f.offset, i.size)) = some places ∧
    ∀ i : Nat, places[i]? = match fs[i]? with | some f => (szOf P f.type).map fun n => (f.offset, n) | none => none
  | [], _ => ⟨[], rfl, fun i => by simp⟩
  | f :: fs, h => by
    obtain ⟨places, h1, h2⟩ := places_ok fs fun f hf => h f (by simp [hf])
    have hf := h f (by simp)
    unfold szOf at hf
    cases hi : P.info? f.type with
    | none => simp [hi] at hf
    | some i =>
      refine ⟨(f.offset, i.size) :: places, by simp [List.mapM_cons, hi, h1], fun j => ?_⟩
      cases j with
      | zero => simp [szOf, hi]
      | succ j => simpa using h2 j
theorem build_ok {t : TypeId} {ps : Array (Nat × Operand)} {qs : List (Nat × Nat × Opd)} {z : List GV} {v : GV} {place : Nat → Option (Nat × Nat)}
    (hpl : (∃ fs, P.underlying t = some (.struct fs) ∧ (fs.all fun f => (szOf P f.type).isSome) = true ∧ place = placeS P fs) ∨ ∃ n e s, P.underlying t = some (.array n e) ∧ szOf P e = some s ∧ place = fun i => some (i * s, s))
    (hz : zeroOf P t = some z) (hq : compParts place ps.toList = some qs) (hx : ∀ x ∈ ps.toList, ∀ y, compOpd x.2 = some y → rel φ (ρ y) (a.eval x.2)) (h : pBuild z (parts ρ qs) = some v) :
    ∃ u, (Instr.build t (ps.map fun x => (x.1, a.eval x.2))).run P w = .ok u w ∧ rel φ v u := by
  unfold pBuild at h
  obtain ⟨l, hl, h1⟩ := obind_some h
  obtain rfl := Option.some.inj h1
  obtain ⟨i, zv, hi, hzv, hzc⟩ := zeroOf_some hz
  obtain ⟨cs', hf, hr⟩ := fill_ok (cs := zv.cells) hq hx hl (ofCells_ok hzc)
  refine ⟨.agg cs', run_build w t _ cs' ?_, ⟨cs', rfl, hr⟩⟩
  unfold Program.built
  rw [Array.toList_map]
  rcases hpl with ⟨fs, hu, hall, rfl⟩ | ⟨n, e, s, hu, hs, rfl⟩
  · obtain ⟨places, hp, hp2⟩ := places_ok (P := P) fs.toList (fun f hf => by
      rw [Array.all_eq_true_iff_forall_mem] at hall
      exact hall f (by simpa using hf))
    simp only [hi, hu, hzv, hp]
    rw [← hf]
    refine fill_congr (fun i => ?_) _ _
    rw [List.getElem?_toArray, hp2]
    simp only [placeS, Array.getElem?_toList]
    cases fs[i]? <;> rfl
  · unfold szOf at hs
    cases hie : P.info? e with
    | none => simp [hie] at hs
    | some ie =>
      simp only [hie, Option.map_some, Option.some.injEq] at hs
      simp only [hi, hu, hzv, hie, hs]
      exact hf

end
end
end Go.Ev
