/- The two functions of the queue (a select of one case with a default), walked; what they give the ghost. -/
import Derived.Test.YtbofkbhobcahiaaGreatEvCode
import Derived.Test.YtbofkbhobcahiaaGreatProg
import Derived.Conc.LoneSelect
import Derived.Laws.Rows
namespace Go.Ev
open Go.Conc Go.RowKit Go.Proofs
noncomputable section
variable {φ : Phi} {h : Heap} {w : World}

theorem enter_take (v : Value) : Frame.enter Tryz.prog 132 #[v] .normal = (base 132).at ⟨#[v, undef, undef, undef, undef, undef, undef, undef, undef, undef, undef], []⟩ [.code (Tryz.f132.body.getD .skip)] := by
  simp [Frame.enter, Frame.at, Tryz.func132, base, Tryz.f132]
theorem enter_put (v u : Value) : Frame.enter Tryz.prog 140 #[v, u] .normal = (base 140).at ⟨#[v, u, undef, undef, undef, undef, undef, undef, undef, undef], []⟩ [.code (Tryz.f140.body.getD .skip)] := by
  simp [Frame.enter, Frame.at, Tryz.func140, base, Tryz.f140]

set_option maxRecDepth 100000 in
theorem take_some {c cap s r : Nat} {buf : Array Value} (hc : w.heap[c]? = some (.chan cap buf false s r false)) (hsome : 0 < buf.size) :
    Calls Tryz.prog 132 #[.chan (some c)] w fun e w' => e = .returned (.tuple #[buf.getD 0 undef, .bool true]) ∧ w' = w.setChan c cap (buf.extract 1 buf.size) false s (r + 1) false := by
  refine calls_of_loneTo fun cs => ?_
  rw [enter_take]
  refine LoneTo.goes (n := 12) ?_
  simp only [Tryz.f132, Option.getD_some]
  s_c stepG_seq
  s_reg
  s_op
  s_op
  s_c stepG_region_end
  s_c stepG_seq
  s_reg
  s_op
  s_c stepG_region_end
  s_c stepG_seq
  s_reg
  s_stop
  refine LoneTo.step (step_lone_select_recv_buf (c := c) (z := .int .u8 0) (stepG_comm (cases := #[rcase c (.int .u8 0)]) (blocking := false) (shape := .select) (w' := w) rfl rfl (by decide) (by simp [go_sem, execOp, rcase, Act.eval])) hc hsome) ?_
  rw [Frame.finish_at]
  walk_nrm
  refine LoneTo.goes (n := 17) ?_
  s_op
  s_op
  s_c stepG_region_end
  s_c stepG_block
  s_cond true
  s_c stepG_seq
  s_reg
  s_op
  s_op
  s_c stepG_region_end
  s_c stepG_seq
  s_reg
  s_op
  s_op
  s_op
  s_c stepG_region_end
  s_c stepG_ret'
  s_stop
  exact LoneTo.done ⟨.returned (.tuple #[buf.getD 0 undef, .bool true]), _, rfl, ⟨by simp, rfl⟩, rfl, rfl, rfl, rfl, _, Tryz.func132, by simp [results, Tryz.f132, Frame.at, hsome]⟩

set_option maxRecDepth 100000 in
theorem take_none {c cap s r : Nat} (hc : w.heap[c]? = some (.chan cap #[] false s r false)) :
    Calls Tryz.prog 132 #[.chan (some c)] w fun e w' => e = .returned (.tuple #[.int .u8 0, .bool false]) ∧ w' = w := by
  refine calls_of_loneTo fun cs => ?_
  rw [enter_take]
  refine LoneTo.goes (n := 12) ?_
  simp only [Tryz.f132, Option.getD_some]
  s_c stepG_seq
  s_reg
  s_op
  s_op
  s_c stepG_region_end
  s_c stepG_seq
  s_reg
  s_op
  s_c stepG_region_end
  s_c stepG_seq
  s_reg
  s_stop
  refine LoneTo.step (step_lone_select_default (c := c) (z := .int .u8 0) (stepG_comm (cases := #[rcase c (.int .u8 0)]) (blocking := false) (shape := .select) (w' := w) rfl rfl (by decide) (by simp [go_sem, execOp, rcase, Act.eval])) hc) ?_
  rw [Frame.finish_at]
  walk_nrm
  refine LoneTo.goes (n := 12) ?_
  s_op
  s_op
  s_c stepG_region_end
  s_c stepG_block
  s_cond false
  s_c stepG_seq
  s_reg
  s_op
  s_op
  s_c stepG_region_end
  s_c stepG_ret'
  s_stop
  exact LoneTo.done ⟨.returned (.tuple #[.int .u8 0, .bool false]), _, rfl, ⟨rfl, rfl⟩, rfl, rfl, rfl, rfl, _, Tryz.func132, by simp [results, Tryz.f132, Frame.at]⟩

set_option maxRecDepth 100000 in
theorem put_room {c cap s r : Nat} {buf : Array Value} {v : Value} (hc : w.heap[c]? = some (.chan cap buf false s r false)) (hroom : buf.size < cap) :
    Calls Tryz.prog 140 #[.chan (some c), v] w fun e w' => e = .returned (.bool true) ∧ w' = w.setChan c cap (buf.push v) false (s + 1) r false := by
  refine calls_of_loneTo fun cs => ?_
  rw [enter_put]
  refine LoneTo.goes (n := 15) ?_
  simp only [Tryz.f140, Option.getD_some]
  s_c stepG_seq
  s_reg
  s_op
  s_c stepG_region_end
  s_c stepG_seq
  s_c stepG_seq
  s_reg
  s_op
  s_c stepG_region_end
  s_reg
  s_op
  s_c stepG_region_end
  s_c stepG_seq
  s_reg
  s_stop
  refine LoneTo.step (step_lone_select_send_room (c := c) (cap := cap) (buf := buf) (s := s) (r := r) (tm := false) (v := v) (z' := .int .u8 0) (stepG_comm (cases := #[scase c v (.int .u8 0)]) (blocking := false) (shape := .select) (w' := w) rfl rfl (by decide) (by simp [go_sem, execOp, scase, Act.eval])) hc hroom) ?_
  rw [Frame.finish_at]
  walk_nrm
  refine LoneTo.goes (n := 12) ?_
  s_op
  s_op
  s_c stepG_region_end
  s_c stepG_block
  s_cond true
  s_c stepG_seq
  s_reg
  s_op
  s_c stepG_region_end
  s_c stepG_ret'
  s_stop
  exact LoneTo.done ⟨.returned (.bool true), _, rfl, ⟨rfl, rfl⟩, rfl, rfl, rfl, rfl, _, Tryz.func140, by simp [results, Tryz.f140, Frame.at]⟩

set_option maxRecDepth 100000 in
theorem put_full {c cap s r : Nat} {buf : Array Value} {v : Value} (hc : w.heap[c]? = some (.chan cap buf false s r false)) (hfull : cap ≤ buf.size) :
    Calls Tryz.prog 140 #[.chan (some c), v] w fun e w' => e = .returned (.bool false) ∧ w' = w := by
  refine calls_of_loneTo fun cs => ?_
  rw [enter_put]
  refine LoneTo.goes (n := 15) ?_
  simp only [Tryz.f140, Option.getD_some]
  s_c stepG_seq
  s_reg
  s_op
  s_c stepG_region_end
  s_c stepG_seq
  s_c stepG_seq
  s_reg
  s_op
  s_c stepG_region_end
  s_reg
  s_op
  s_c stepG_region_end
  s_c stepG_seq
  s_reg
  s_stop
  refine LoneTo.step (step_lone_select_send_full (c := c) (cap := cap) (buf := buf) (s := s) (r := r) (tm := false) (v := v) (z' := .int .u8 0) (stepG_comm (cases := #[scase c v (.int .u8 0)]) (blocking := false) (shape := .select) (w' := w) rfl rfl (by decide) (by simp [go_sem, execOp, scase, Act.eval])) hc hfull) ?_
  rw [Frame.finish_at]
  walk_nrm
  refine LoneTo.goes (n := 12) ?_
  s_op
  s_op
  s_c stepG_region_end
  s_c stepG_block
  s_cond false
  s_c stepG_seq
  s_reg
  s_op
  s_c stepG_region_end
  s_c stepG_ret'
  s_stop
  exact LoneTo.done ⟨.returned (.bool false), _, rfl, ⟨rfl, rfl⟩, rfl, rfl, rfl, rfl, _, Tryz.func140, by simp [results, Tryz.f140, Frame.at]⟩

/-- A queue's block, laid anew. -/
theorem chan_set (H : HRel φ h w) {p : Pos} {L : Loc} (hp : φ p = some L) {cap : Nat} {b0 : List GV} (hb0 : Tr.get .gone p h.t = .chan cap b0) {l : List GV} {b : Array Value} {s r : Nat} (hl : All2 (relC φ) l b.toList) :
    HRel φ ⟨Tr.set .gone (.chan cap l) p h.t, h.nx⟩ (w.setChan L.r cap b false s r false) ∧ Fr φ h w φ ⟨Tr.set .gone (.chan cap l) p h.t, h.nx⟩ (w.setChan L.r cap b false s r false) := by
  have hlt := (H.lt p L hp).1
  have hsz : (w.setChan L.r cap b false s r false).heap.size = w.heap.size := size_setChan _ _ _ _ _ _ _ _
  have hat : (w.setChan L.r cap b false s r false).heap[L.r]? = some (.chan cap b false s r false) := heap_setChan _ _ _ _ _ _ _ _ hlt
  have hoth : ∀ k, k ≠ L.r → (w.setChan L.r cap b false s r false).heap[k]? = w.heap[k]? := fun k hk => by simp only [World.setChan]; rw [Array.getElem?_setIfInBounds_ne (Ne.symm hk)]
  have hlive : ∀ q, (Tr.get GObj.gone q (Tr.set .gone (.chan cap l) p h.t)).live = (Tr.get GObj.gone q h.t).live := by
    intro q
    by_cases e : q = p
    · subst e; rw [Tr.get_set, hb0]; rfl
    · rw [Tr.get_set_ne _ _ _ _ _ e]
  have hwr : ∀ q, (Tr.get GObj.gone q (Tr.set .gone (.chan cap l) p h.t)).wr = (Tr.get GObj.gone q h.t).wr := by
    intro q
    by_cases e : q = p
    · subst e; rw [Tr.get_set, hb0]; rfl
    · rw [Tr.get_set_ne _ _ _ _ _ e]
  refine ⟨⟨fun q M hq => ?_, fun q M hq => by rw [hsz]; exact H.lt q M hq, fun q q' M M' hq hq' l1 l2 e => ?_, fun q hq => ?_⟩, ⟨.refl φ, by rw [hsz]; exact Nat.le_refl _, Nat.le_refl _, fun k hk hn => ?_, fun k hk hw => ?_, fun k hk hw => ?_, fun q M h1 h2 => by (rw [h1] at h2; cases h2), rfl, rfl, rfl⟩⟩
  · by_cases e : q = p
    · subst e
      obtain rfl : L = M := by rw [hp] at hq; exact Option.some.inj hq
      simp only [Tr.get_set]
      exact ⟨b, s, r, hat, hl⟩
    · simp only [Tr.get_set_ne _ _ _ _ _ e]
      cases hlv : (Tr.get GObj.gone q h.t).live with
      | false => cases ho : Tr.get GObj.gone q h.t <;> rw [ho] at hlv <;> first | trivial | cases hlv
      | true =>
        have hne : M.r ≠ L.r := fun e2 => e (H.inj q p M L hq hp hlv (by rw [hb0]; rfl) e2)
        exact relO_other (.refl φ) (hoth _ hne) (H.obj q M hq)
  · simp only [hlive] at l1 l2
    exact H.inj q q' M M' hq hq' l1 l2 e
  · have hne : q ≠ p := fun e => by subst e; have := (H.lt q L hp).2; simp only at hq; omega
    simp only [Tr.get_set_ne _ _ _ _ _ hne]
    exact H.new q hq
  · refine hoth k fun e => hn ⟨p, L, hp, e.symm, by rw [hb0]; rfl⟩
  · obtain ⟨q, M, hq, e, hx⟩ := hw
    exact ⟨q, M, hq, e, by simpa only [hwr] using hx⟩
  · obtain ⟨q, M, hq, e, hx⟩ := hw
    exact ⟨q, M, hq, e, by simpa only [hlive] using hx⟩

theorem real_take : Real Tryz.prog 132 := ⟨Tryz.f132, Tryz.func132, by kernel_rfl, by kernel_rfl⟩
theorem real_put : Real Tryz.prog 140 := ⟨Tryz.f140, Tryz.func140, by kernel_rfl, by kernel_rfl⟩

theorem relA_of_relC {g : GV} {v : Value} (h : relC φ g v) : relA φ g v := by
  cases g <;> first | exact h | exact h.elim
theorem rel_of_relC {g : GV} {v : Value} (h : relC φ g v) : rel φ g v := by
  cases g <;> first | exact h | exact h.elim

theorem take_gives {args : List GV} {v : GV} {h' : Heap} (hg : primTake args h = some (v, h')) : Gives Tryz.prog (Pos.of 132) args h v h' := by
  intro f vs φ w hf hall H
  obtain rfl : 132 = f := Pos.of_inj hf
  refine ⟨real_take, ?_⟩
  unfold primTake at hg
  split at hg <;> try cases hg
  rename_i p
  match hvs : vs.toList, hall with
  | [x], hall =>
  obtain ⟨⟨L, hp, rfl⟩, -⟩ := hall
  obtain rfl : vs = #[.chan (some L.r)] := by rw [← Array.toList_inj, hvs]
  have hobj := H.obj p L hp
  rw [hget_eq] at hg
  split at hg
  · rename_i cap u buf hb
    obtain ⟨h1, h2, h3⟩ := obind_some hg
    rw [hset_eq] at h2
    obtain rfl := Option.some.inj h2
    cases h3
    rw [hb] at hobj
    obtain ⟨b, s, r, hc, hbl⟩ := hobj
    have hsz := hbl.length
    have hpos : 0 < b.size := by simp at hsz; omega
    refine (take_some hc hpos).mono fun e w' ⟨he, hw⟩ => ?_
    subst he hw
    have hhead : relC φ u (b.getD 0 undef) ∧ All2 (relC φ) buf (b.extract 1 b.size).toList := by
      match hbt : b.toList, hbl with
      | y :: ys, hbl =>
        obtain rfl : b = (y :: ys).toArray := by rw [← hbt]
        refine ⟨hbl.1, ?_⟩
        have := hbl.2
        simpa using this
    obtain ⟨H', F'⟩ := chan_set H hp hb (s := s) (r := r + 1) hhead.2
    exact ⟨_, φ, rfl, ⟨_, rfl, relA_of_relC hhead.1, rfl, trivial⟩, H', F'⟩
  · rename_i cap hb
    cases hg
    rw [hb] at hobj
    obtain ⟨b, s, r, hc, hbl⟩ := hobj
    have hsz := hbl.length
    obtain rfl : b = #[] := by
      have : b.size = 0 := by simpa using hsz.symm
      exact Array.eq_empty_of_size_eq_zero this
    refine (take_none hc).mono fun e w' ⟨he, hw⟩ => ?_
    subst he hw
    exact ⟨_, φ, rfl, ⟨_, rfl, rfl, rfl, trivial⟩, H, .refl _ _ _⟩
  · cases hg

theorem put_gives {args : List GV} {v : GV} {h' : Heap} (hg : primPut args h = some (v, h')) : Gives Tryz.prog (Pos.of 140) args h v h' := by
  intro f vs φ w hf hall H
  obtain rfl : 140 = f := Pos.of_inj hf
  refine ⟨real_put, ?_⟩
  unfold primPut at hg
  split at hg <;> try cases hg
  rename_i p x
  match hvs : vs.toList, hall with
  | [y, z], hall =>
  obtain ⟨⟨L, hp, rfl⟩, hx, -⟩ := hall
  obtain rfl : vs = #[.chan (some L.r), z] := by rw [← Array.toList_inj, hvs]
  have hobj := H.obj p L hp
  rw [hget_eq] at hg
  split at hg
  · rename_i cap buf hb
    obtain ⟨hcell, hg1⟩ := ifb_some hg
    rw [hb] at hobj
    obtain ⟨b, s, r, hc, hbl⟩ := hobj
    have hsz : buf.length = b.size := by have := hbl.length; simpa using this
    rw [ifb_eq] at hg1
    split at hg1
    · rename_i hlt
      rw [forceL_eq] at hg1
      obtain ⟨h1, h2, h3⟩ := obind_some hg1
      rw [hset_eq] at h2
      obtain rfl := Option.some.inj h2
      cases h3
      have hlt := nat_blt hlt
      refine (put_room (v := z) hc (by omega)).mono fun e w' ⟨he, hw⟩ => ?_
      subst he hw
      have hall : All2 (relC φ) (buf ++ [x]) (b.push z).toList := by
        rw [Array.toList_push]
        exact hbl.app ⟨cell_rel hcell hx, trivial⟩
      obtain ⟨H', F'⟩ := chan_set H hp hb (s := s + 1) (r := r) hall
      exact ⟨_, φ, rfl, rfl, H', F'⟩
    · rename_i hlt
      cases hg1
      have hge : cap ≤ b.size := by
        rcases Nat.lt_or_ge buf.length cap with h | h
        · exact absurd (by simpa [Nat.blt_eq] using h) hlt
        · omega
      refine (put_full (v := z) hc hge).mono fun e w' ⟨he, hw⟩ => ?_
      subst he hw
      exact ⟨_, φ, rfl, rfl, H, .refl _ _ _⟩
  · cases hg

end
end Go.Ev
