/- Regions that draw: what holds of the ghost's heaps in the order of the text. -/
import Derived.Test.YtbofkbhobcahiaaGreatEvDraw1
namespace Go.Ev
noncomputable section
section
variable {P : Program} {φ : Phi} {a : Act} {o : Oper} {h : Heap} {w : World} {c : Cx} {ops : Array Oper} {fr : Tr GV} {env : Env}

theorem chain_ok {E : Nat → Env} {H : Nat → Heap} {V : Nat → GV} {n : Nat} (hstep : ∀ i, i < n → ∃ o g, dstOk c o.dst = true ∧ StepFact P ops fr o g (E i) (H i) (V i) (E (i + 1)) (H (i + 1)))
    (he : EnvRel φ fr (E 0) a) (h0 : HRel φ (H 0) w) (hs : a.tmps.size = c.nt) : ∀ i, i ≤ n → (∃ φ a w, EnvRel φ fr (E i) a ∧ HRel φ (H i) w ∧ a.tmps.size = c.nt) ∧ ∀ j, j < i → (H j).nx.nat ≤ (H (j + 1)).nx.nat := by
  intro i
  induction i with
  | zero => exact fun _ => ⟨⟨φ, a, w, he, h0, hs⟩, fun j hj => by omega⟩
  | succ i ih =>
    intro hi
    obtain ⟨⟨φ1, a1, w1, he1, h1, hs1⟩, hmon⟩ := ih (by omega)
    obtain ⟨o, g, hd, hE, hcase⟩ := hstep i (by omega)
    have hput : ∀ {φ' : Phi} {u : Value}, φ1.le φ' → rel φ' (V i) u → EnvRel φ' fr (E (i + 1)) (a1.put o.dst u) := by
      intro φ' u hle hu
      rw [hE]
      refine (he1.mono hle).put hu fun d hod => ?_
      rw [hs1]; rw [hod] at hd; exact dst_lt hd
    have mono : (H i).nx.nat ≤ (H (i + 1)).nx.nat → ∀ j, j < i + 1 → (H j).nx.nat ≤ (H (j + 1)).nx.nat := by
      intro h2 j hj
      rcases Nat.lt_or_ge j i with h3 | h3
      · exact hmon j h3
      · obtain rfl : j = i := by omega
        exact h2
    rcases hcase with ⟨hv, hH, -⟩ | ⟨-, -, hdoes⟩
    · refine ⟨⟨φ1, _, w1, hput (u := undef) (.refl φ1) (by rw [hv]; exact ⟨#[], rfl, trivial⟩), by rw [hH]; exact h1, by rw [put_size]; exact hs1⟩, mono (by rw [hH]; exact Nat.le_refl _)⟩
    · obtain ⟨a', w', φ', hE', hH', hs', hnx⟩ := wp_exists (hdoes φ1 a1 w1 (EnvRel.looks (ops := ops) he1).opnds h1 (fun a' w' => ∃ φ', EnvRel φ' fr (E (i + 1)) a' ∧ HRel φ' (H (i + 1)) w' ∧ a'.tmps.size = c.nt ∧ (H i).nx.nat ≤ (H (i + 1)).nx.nat) _
        fun φ' u w' hu H' F' => ⟨φ', hput F'.le hu, H', by rw [put_size]; exact hs1, F'.nx⟩)
      exact ⟨⟨φ', a', w', hE', hH', hs'⟩, mono hnx⟩

theorem obind_s {α β : Type} (a : α) (k : α → Option β) : obind (some a) k = k a := rfl
theorem ifb_t {β : Type} (x y : β) : ifb true x y = x := rfl
theorem asNat_n {β : Type} (k : IntKind) (n : Nat) (f : Nat → Option β) : (GV.int k (Int.ofNat n)).asNat f = f n := rfl
/-- An operation that lays one new block: which block hangs on the operands alone. -/
theorem alloc_shape {ρ : Opd → GV} {g : NOp} {v : GV} {h' : Heap} (hcls : clsOf (.n g) = .a) (hg : nop ρ h g = some (v, h')) :
    ∃ b, h' = ⟨Tr.set .gone b h.nx h.t, h.nx.succ⟩ ∧ ∀ t, nop ρ ⟨t, h.nx⟩ g = some (v, ⟨Tr.set .gone b h.nx t, h.nx.succ⟩) := by
  cases g <;> first | cases hcls | skip
  case alloc z =>
    have hg1 : nAlloc z h = some (v, h') := hg
    unfold nAlloc at hg1
    rw [hnew_eq] at hg1
    simp only [Option.some.injEq, Prod.mk.injEq] at hg1
    obtain ⟨rfl, rfl⟩ := hg1
    refine ⟨_, rfl, fun t => ?_⟩
    show nAlloc z _ = _
    unfold nAlloc
    rw [hnew_eq]
  case box x =>
    have hg1 : nBox (ρ x) h = some (v, h') := hg
    unfold nBox at hg1
    obtain ⟨l, hl, hg2⟩ := obind_some hg1
    rw [hnew_eq] at hg2
    simp only [Option.some.injEq, Prod.mk.injEq] at hg2
    obtain ⟨rfl, rfl⟩ := hg2
    refine ⟨_, rfl, fun t => ?_⟩
    show nBox (ρ x) _ = _
    unfold nBox
    simp only [hl, obind_s, hnew_eq]
  case buildS z len sz pk ps =>
    have hg1 : nBuildS z len sz pk (parts ρ ps) h = some (v, h') := hg
    unfold nBuildS at hg1
    obtain ⟨l, hl, hg2⟩ := obind_some hg1
    obtain ⟨c, hc, hg3⟩ := obind_some hg2
    obtain ⟨b, hb, hg4⟩ := obind_some hg3
    rw [hnew_eq] at hg4
    simp only [Option.some.injEq, Prod.mk.injEq] at hg4
    obtain ⟨rfl, rfl⟩ := hg4
    refine ⟨_, rfl, fun t => ?_⟩
    show nBuildS z len sz pk (parts ρ ps) _ = _
    unfold nBuildS
    simp only [hl, hc, hb, obind_s, hnew_eq]
  case makeS z sz by_ pk x y =>
    have hg1 : nMakeS z sz by_ pk (ρ x) (ρ y) h = some (v, h') := hg
    unfold nMakeS at hg1
    obtain ⟨k1, l, hl, hg2⟩ := asNat_some hg1
    obtain ⟨k2, c, hc, hg3⟩ := asNat_some hg2
    obtain ⟨c1, hg4⟩ := ifb_some hg3
    obtain ⟨c2, hg5⟩ := ifb_some hg4
    obtain ⟨c3, hg6⟩ := ifb_some hg5
    obtain ⟨b, hb, hg7⟩ := obind_some hg6
    rw [hnew_eq] at hg7
    simp only [Option.some.injEq, Prod.mk.injEq] at hg7
    obtain ⟨rfl, rfl⟩ := hg7
    refine ⟨_, rfl, fun t => ?_⟩
    show nMakeS z sz by_ pk (ρ x) (ρ y) _ = _
    unfold nMakeS
    simp only [hl, hc, asNat_n, c1, c2, c3, hb, ifb_t, obind_s, hnew_eq]
  case chan x =>
    have hg1 : nChan (ρ x) h = some (v, h') := hg
    unfold nChan at hg1
    obtain ⟨k1, l, hl, hg2⟩ := asNat_some hg1
    obtain ⟨c1, hg3⟩ := ifb_some hg2
    rw [hnew_eq] at hg3
    simp only [Option.some.injEq, Prod.mk.injEq] at hg3
    obtain ⟨rfl, rfl⟩ := hg3
    refine ⟨_, rfl, fun t => ?_⟩
    show nChan (ρ x) _ = _
    unfold nChan
    simp only [hl, asNat_n, c1, ifb_t, hnew_eq]

end
end
end Go.Ev
