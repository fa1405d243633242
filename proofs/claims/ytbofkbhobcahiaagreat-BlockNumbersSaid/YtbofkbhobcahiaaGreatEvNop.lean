/- Operations that lay new blocks. -/
import Derived.Test.YtbofkbhobcahiaaGreatEvWop
namespace Go.Ev
noncomputable section
section
variable {P : Program} {φ : Phi} {ρ : Opd → GV} {a : Act} {o : Oper} {h : Heap} {w : World}

/-- What an operation that lays blocks comes to. -/
def NOK (P : Program) (φ : Phi) (h : Heap) (w : World) (s : Sem Value) (v : GV) (h' : Heap) : Prop :=
  ∃ u w' φ', s.run P w = .ok u w' ∧ rel φ' v u ∧ HRel φ' h' w' ∧ Fr φ h w φ' h' w'

theorem rep_len (z : List GV) : ∀ n, (rep z n).length = n * z.length
  | 0 => by simp [rep]
  | n + 1 => by simp [rep, rep_len z n, Nat.add_mul]; omega
theorem rep_get (z : List GV) : ∀ (n i : Nat), i < n * z.length → (rep z n)[i]? = z[i % z.length]?
  | 0, i, h => by simp at h
  | n + 1, i, h => by
    rw [rep]
    by_cases hi : i < z.length
    · rw [List.getElem?_append_left hi, Nat.mod_eq_of_lt hi]
    · rw [List.getElem?_append_right (by omega), rep_get z n _ (by rw [Nat.add_mul] at h; omega), Nat.mod_eq_sub_mod (a := i) (by omega)]
theorem zeros_ok {z : List GV} {zc : Array Value} (hz : All2 (relC φ) z zc.toList) (n : Nat) : All2 (relC φ) (rep z n) ((Array.range (n * zc.size)).map (zc[· % zc.size]!)).toList := by
  have hlen := hz.length
  simp only [Array.length_toList] at hlen
  refine All2.of_get (by simp [rep_len, hlen]) fun i g v hg hv => ?_
  have hi : i < n * z.length := by
    rcases Nat.lt_or_ge i (n * z.length) with h1 | h1
    · exact h1
    · rw [List.getElem?_eq_none (by rw [rep_len]; exact h1)] at hg; cases hg
  rw [rep_get z n i hi] at hg
  obtain ⟨u, hu, hr⟩ := hz.get _ _ hg
  have hpos : 0 < z.length := by
    rcases Nat.eq_zero_or_pos z.length with h0 | h0
    · rw [h0] at hi; omega
    · exact h0
  have hm : i % zc.size < zc.size := Nat.mod_lt _ (by omega)
  rw [hlen] at hi hu
  have e1 : ((Array.range (n * zc.size)).map (zc[· % zc.size]!)).toList[i]? = some (zc[i % zc.size]!) := by
    simp [hi]
  rw [e1] at hv
  obtain rfl := Option.some.inj hv
  have e2 : zc[i % zc.size]! = u := by
    have : zc[i % zc.size]? = some u := by simpa using hu
    rw [getElem!_pos zc _ hm]
    rw [Array.getElem?_eq_getElem hm] at this
    exact Option.some.inj this
  rw [e2]; exact hr

theorem zeroCs_list {pk : PK} {z : List GV} (hz : zOk pk z = true) (n : Nat) : csList (zeroCs pk z n) = rep z n := by
  unfold zOk at hz
  unfold zeroCs
  split at hz
  · rfl
  · rename_i k w k' 
    rw [ikEq_iff] at hz; subst hz
    show unpack k w 0 0 n = _
    refine unpack_eq (by simp [rep_len]) fun j hj => ?_
    rw [rep_get _ _ _ (by simpa using hj)]
    have : pget w 0 j = 0 := by show (0 >>> (w * j)) % 2 ^ w = 0; simp
    rw [this]
    simp [Nat.mod_one]
  · cases hz

theorem mem_rel {c : Array Value} {l : List GV} (hc : All2 (relC φ) l c.toList) : ∀ (i : Nat) (g : GV), l[i]? = some g → ∃ v, c[i]? = some v ∧ relC φ g v := by
  intro i g hg
  obtain ⟨v, hv, hr⟩ := hc.get i g hg
  exact ⟨v, by simpa using hv, hr⟩

theorem run_newRow {e : TypeId} {c : Array Value} : (newRow e c).run P w = .ok ⟨w.heap.size, 0, none⟩ (w.alloc (.cells c e)) := rfl

theorem alloc_ok {e : TypeId} {z : List GV} {v : GV} {h' : Heap} (H : HRel φ h w) (hz : zeroOf P e = some z) (hg : nAlloc z h = some (v, h')) : NOK P φ h w (Instr.alloc e true (.tuple #[])) v h' := by
  unfold nAlloc at hg
  rw [hnew_eq] at hg
  simp only [Option.some.injEq, Prod.mk.injEq] at hg
  obtain ⟨rfl, rfl⟩ := hg
  obtain ⟨i, zv, hi, hzv, hzc⟩ := zeroOf_some hz
  have hall : All2 (relC φ) z zv.cells.toList := ofCells_ok hzc
  obtain ⟨h1, h2⟩ := new_ok H (b := .cells z z.length false) (c := zv.cells) (T := e) (w' := w.alloc (.cells zv.cells e)) rfl rfl rfl rfl rfl (mem_rel hall)
  refine ⟨.pointer (some ⟨w.heap.size, 0, none⟩), _, _, ?_, ?_, h1, h2⟩
  · simp only [Instr.alloc, Sem.run_bind, run_zeroOf hi hzv, Result.andThen_ok, newVar, run_newRow, Sem.run_pure]
  · exact ⟨_, Phi.ins_self _ _ _, rfl⟩
theorem box_ok {e : TypeId} {x v : GV} {u : Value} {h' : Heap} (H : HRel φ h w) (hx : rel φ x u) (hg : nBox x h = some (v, h')) : NOK P φ h w (Instr.box e u) v h' := by
  unfold nBox at hg
  obtain ⟨l, hl, hg1⟩ := obind_some hg
  rw [hnew_eq] at hg1
  simp only [Option.some.injEq, Prod.mk.injEq] at hg1
  obtain ⟨rfl, rfl⟩ := hg1
  have hall := cells_ok hl hx
  obtain ⟨h1, h2⟩ := new_ok H (b := .cells l l.length false) (c := u.cells) (T := e) (w' := w.alloc (.cells u.cells e)) rfl rfl rfl rfl rfl (mem_rel hall)
  refine ⟨.pointer (some ⟨w.heap.size, 0, none⟩), _, _, ?_, ?_, h1, h2⟩
  · simp only [Instr.box, Sem.run_bind, Result.andThen_ok, newVar, run_newRow, Sem.run_pure]
  · exact ⟨_, Phi.ins_self _ _ _, rfl⟩

theorem sl_new {φ' : Phi} {p : Pos} {r n c len sz : Nat} (hp : φ' p = some ⟨r, 0, n, sz⟩) : rel φ' (.sl p 0 len c 0) (.slice (some ⟨r, 0, none⟩) len c) :=
  ⟨_, c, hp, rfl, Nat.le_refl _, fun _ => rfl, fun h => absurd rfl h⟩

theorem buildS_ok {t e : TypeId} {z : List GV} {len n : Nat} {pk : PK} {ps : Array (Nat × Operand)} {qs : List (Nat × Nat × Opd)} {v : GV} {h' : Heap} (H : HRel φ h w) (hu : P.underlying t = some (.slice e)) (hs : szOf P e = some n)
    (hz : zeroOf P e = some z) (hzl : z.length = n) (hlen : ¬ len * n > 2 ^ 24) (hq : compParts (fun i => some (i * n, n)) ps.toList = some qs) (hx : ∀ x ∈ ps.toList, ∀ y, compOpd x.2 = some y → rel φ (ρ y) (a.eval x.2))
    (hg : nBuildS (rep z len) len n pk (parts ρ qs) h = some (v, h')) : NOK P φ h w (Instr.buildSlice t len (ps.map fun x => (x.1, a.eval x.2))) v h' := by
  unfold nBuildS at hg
  obtain ⟨l, hl, hg1⟩ := obind_some hg
  obtain ⟨c, hc, hg2⟩ := obind_some hg1
  obtain ⟨b, hb, hg3⟩ := obind_some hg2
  rw [hnew_eq] at hg3
  simp only [Option.some.injEq, Prod.mk.injEq] at hg3
  obtain ⟨rfl, rfl⟩ := hg3
  have hrow := csObj_row hb
  rw [optPack_ok hc] at hrow
  obtain ⟨i, zv, hi, hzv, hzc⟩ := zeroOf_some hz
  have hall : All2 (relC φ) z zv.cells.toList := ofCells_ok hzc
  have hsz : zv.cells.size = n := by have := hall.length; simp only [Array.length_toList] at this; omega
  have key : ∀ zc : Array Value, (All2 (relC φ) (rep z len) ((Array.range (len * n)).map (zc[· % zc.size]!)).toList) →
      ((len * n = 0 ∧ zc = #[]) ∨ (¬ len * n = 0 ∧ zc = zv.cells)) → NOK P φ h w (Instr.buildSlice t len (ps.map fun x => (x.1, a.eval x.2))) (.sl h.nx 0 len len 0) ⟨Tr.set .gone b h.nx h.t, h.nx.succ⟩ := by
    intro zc hzall hzrun
    obtain ⟨cs', hf, hr⟩ := fill_ok hq hx hl hzall
    obtain ⟨h1, h2⟩ := new_ok H (c := cs') (T := e) (w' := w.alloc (.cells cs' e)) hrow rfl rfl rfl rfl (mem_rel hr)
    refine ⟨.slice (some ⟨w.heap.size, 0, none⟩) len len, _, _, ?_, sl_new (Phi.ins_self _ _ _), h1, h2⟩
    have hf' : Instr.fill (fun i => some (i * n, n)) ((Array.range (len * n)).map (zc[· % zc.size]!)) (ps.map fun x => (x.1, a.eval x.2)).toList = some cs' := by rw [Array.toList_map]; exact hf
    rcases hzrun with ⟨h0, rfl⟩ | ⟨h0, rfl⟩
    · simp only [Instr.buildSlice, Sem.run_bind, run_underlying hu, Result.andThen_ok, szOf_some hs, hlen, if_false, Sem.run_pure, if_pos h0]
      simp only [hf', run_newRow, Sem.run_bind, Result.andThen_ok, Sem.run_pure]
    · simp only [Instr.buildSlice, Sem.run_bind, run_underlying hu, Result.andThen_ok, szOf_some hs, hlen, if_false, Sem.run_pure, h0, run_zeroOf hi hzv, hf', run_newRow]
  by_cases h0 : len * n = 0
  · refine key #[] ?_ (.inl ⟨h0, rfl⟩)
    rw [h0]
    have hrep : rep z len = [] := by
      apply List.length_eq_zero_iff.1; rw [rep_len, hzl]; exact h0
    rw [hrep]; simp [All2]
  · refine key zv.cells ?_ (.inr ⟨h0, rfl⟩)
    have := zeros_ok hall len
    rw [hsz] at this
    rw [hsz]; exact this

end
end
end Go.Ev
