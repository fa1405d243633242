/- Regions that draw: all operations, in any order. -/
import Derived.Test.YtbofkbhobcahiaaGreatEvDraw8
namespace Go.Ev
noncomputable section
section
variable {P : Program} {ops : Array Oper} {gs : List GOper} {fr : Tr GV} {E : Nat → Env} {H : Nat → Heap} {V : Nat → GV}
variable {cx : Cx} {φ0 φ : Phi} {w0 w : World} {S : Nat → Prop} {c : Nat} {a : Act}

theorem Inv.cur (T : Txt P ops gs fr E H V) (I : Inv ops gs fr E H cx φ0 w0 S c φ a w) {j : Nat} (h1 : c ≤ j) (h3 : j ≤ ops.size) (hq : ∀ i, c ≤ i → i < j → ¬ isEW gs i) {p : Pos} {L : Loc} (hp : φ p = some L)
    (hl : (Tr.get GObj.gone p (H j).t).live = true) : ∃ b m, Cur ops gs H c S p b m ∧ b = Tr.get .gone p (H j).t := by
  obtain ⟨-, b, m, hc⟩ := I.dom p L hp
  rcases hc with ⟨e1, e2, e3⟩ | ⟨i, e1, e2, e3, e4, e5, e6, e7, e8⟩
  · exact ⟨b, m, .inl ⟨e1, e2, e3⟩, by rw [e2, T.keep j c h1 (by omega) hq e1]⟩
  · rcases Nat.lt_or_ge i j with h4 | h4
    · exact ⟨b, m, .inr ⟨i, e1, e2, e3, e4, e5, e6, e7, e8⟩, by rw [e7, T.keep j (i + 1) (by omega) (by omega) (fun l h5 h6 => hq l (by omega) h6) e6]⟩
    · rw [T.new j (by omega) p (Nat.le_trans (T.nx i j h4 (by omega)) e5)] at hl
      cases hl

/-- All have run. -/
theorem Inv.fin (T : Txt P ops gs fr E H V) (I : Inv ops gs fr E H cx φ0 w0 S c φ a w) (h0 : HRel φ0 (H 0) w0) (hall : ∀ i, i < ops.size → S i) :
    EnvRel (φ.below (H ops.size).nx.nat) fr (E ops.size) a ∧ HRel (φ.below (H ops.size).nx.nat) (H ops.size) w ∧ Fr φ0 (H 0) w0 (φ.below (H ops.size).nx.nat) (H ops.size) w := by
  have hq : ∀ i, c ≤ i → i < ops.size → ¬ isEW gs i := fun i h1 h2 h3 => by have := I.cmax i (hall i h2) h3; omega
  have HR := I.hrel T I.cle (Nat.le_refl _) (Nat.le_refl _) hq
  have hnx := T.nx ops.size 0 (Nat.zero_le _) (Nat.le_refl _)
  refine ⟨fun t => ?_, HR, ⟨fun p L hp => Phi.below_of (Nat.lt_of_lt_of_le (h0.lt p L hp).2 hnx) (I.le p L hp), I.hsize, hnx, I.same, ?_, ?_, ?_, I.tape, I.os, I.output⟩⟩
  · have := I.slot t ops.size (Nat.le_refl _) (fun j o hj _ _ => hall j hj) (fun j o hj ho _ hs => by have := I.lt j hs; omega)
    rw [Nat.max_eq_right I.cle] at this
    exact this
  · rintro r hr ⟨p, L, hp, e, hw⟩
    obtain ⟨-, hp⟩ := Phi.below_some hp
    have hl : (Tr.get GObj.gone p (H ops.size).t).live = true := by cases hb : Tr.get GObj.gone p (H ops.size).t <;> rw [hb] at hw <;> first | rfl | cases hw
    obtain ⟨b, m, hc, hb⟩ := I.cur T I.cle (Nat.le_refl _) hq hp hl
    exact I.wr r hr ⟨p, L, b, m, hp, e, hc, by rw [hb]; exact hw⟩
  · rintro r hr ⟨p, L, hp, e, hw⟩
    obtain ⟨-, hp⟩ := Phi.below_some hp
    obtain ⟨b, m, hc, hb⟩ := I.cur T I.cle (Nat.le_refl _) hq hp hw
    exact I.lv r hr ⟨p, L, b, m, hp, e, hc, by rw [hb]; exact hw⟩
  · intro p L hp hn
    exact I.ids p L (Phi.below_some hp).2 hn

/-- One operation more. -/
theorem Inv.one (T : Txt P ops gs fr E H V) (I : Inv ops gs fr E H cx φ0 w0 S c φ a w) (he : edgesLt ops.toList = true) (hsl : SlotsOk ops) (hpr : PairsOk ops gs) (hdst : ∀ (k : Nat) (o : Oper), ops[k]? = some o → dstOk cx o.dst = true)
    (hcomp : ∀ (k : Nat) (o : Oper) (g : GOper), ops[k]? = some o → gs[k]? = some g → compOp P o = some g.op) (hck : ∀ (k : Nat) (o : Oper) (g : GOper) (q : ROp), ops[k]? = some o → gs[k]? = some g → g.op = .r q → rop (rho fr (E k)) (H k) q = some (V k) → CkFact ops gs fr E H V k o q) (hcv : ∀ (k : Nat) (g : GOper) (x : Opd), gs[k]? = some g → g.op = .n (.conv x) → ConvFact ops gs H V k)
    {k : Nat} {o : Oper} (r : Ready ops S k o) {Q : Exit → Act → World → Prop} {K : Act → World → Prop}
    (hK : ∀ c' φ' a' w', Inv ops gs fr E H cx φ0 w0 (With S k) c' φ' a' w' → K a' w') : wpOp P ops Q k K a w := by
  have hk := lt_of_at r.at_
  obtain ⟨o', g, ho', hg, hcls⟩ := T.get hk
  obtain rfl : o = o' := by rw [r.at_] at ho'; exact Option.some.inj ho'
  have hcg := hcomp k o g ho' hg
  have hlook := I.looks he hsl r
  have hnxk : (H k).nx.nat ≤ (H (k + 1)).nx.nat := T.mon k hk
  have hlow : ∀ {m : Nat}, (H (max c k)).nx.nat ≤ (H (max c (k + 1))).nx.nat := fun {_} => T.nx _ _ (by omega) (by have := I.cle; omega)
  have hpre : isEW gs k → ∀ i, i < k → (isEW gs i ∨ clsAt gs i = .a) → S i := by
    intro hew i hi h
    have hp := hpr i k hi hk
    have : ordd (ancs ops.toList []) i k = true := by
      rcases hew with h1 | h1 <;> rw [h1] at hp
      · rcases h with (h2 | h2) | h2 <;> rw [h2] at hp
        · exact hp
        · cases hp
        · exact hp
      · rcases h with (h2 | h2) | h2 <;> rw [h2] at hp
        · exact hp
        · exact hp
        · exact hp
    exact r.of_ordd he I.closed this
  have hck' : (isEW gs k ∨ clsAt gs k = .a) → c ≤ k := by
    intro h
    rcases Nat.lt_or_ge k c with h1 | h1
    · exact absurd (I.cS k h1 h) r.not
    · exact h1
  have hHk : isEW gs k → HRel (φ.below (H k).nx.nat) (H k) w := fun hew =>
    I.hrel T (hck' (.inl hew)) (Nat.le_refl k) (by omega) fun i h1 h2 h3 => by have := I.cmax i (hpre hew i h2 (.inl h3)) h3; omega
  have hlk : isEW gs k ∨ clsAt gs k = .a → Looks (φ.below (H k).nx.nat) fr (E k) a ops o := fun h => by
    have := hlook
    rw [Nat.max_eq_right (hck' h)] at this
    exact this
  simp only [wpOp, r.at_]
  obtain ⟨-, h | ⟨hwant, hrf, hdoes⟩⟩ := T.step k o g ho' hg
  · obtain ⟨hV, hH, hno⟩ := h
    rw [hno _ _ hlook, if_neg (by simp)]
    by_cases hew : isEW gs k
    · obtain ⟨φ', I'⟩ := I.act (w' := w) (φ1 := φ.below (H k).nx.nat) (u := undef) T he hsl hdst r hew (hpre hew) (by rw [hV]; exact ⟨#[], rfl, trivial⟩) (by rw [hH]; exact hHk hew) (by rw [hH]; exact .refl _ _ _)
      exact hK _ _ _ _ I'
    · exact hK _ _ _ _ (I.quiet T he hsl hdst r hew hH (by rw [hV]; exact ⟨#[], rfl, trivial⟩))
  · rw [hwant _ _ hlook, if_pos rfl]
    refine .inl ?_
    by_cases hew : isEW gs k
    · refine hdoes _ a w (hlk (.inl hew)).opnds (hHk hew) _ Q fun φ1 u w' hu H1 F1 => ?_
      obtain ⟨φ', I'⟩ := I.act T he hsl hdst r hew (hpre hew) hu H1 F1
      exact hK _ _ _ _ I'
    · cases hop : g.op with
      | p q =>
        rw [hop] at hrf hcg
        obtain ⟨h1, h2⟩ := hrf
        obtain ⟨u, hr, hu⟩ := pop_ok hcg hlook.opnds h1 w
        unfold Oper.wp; rw [hr]
        exact hK _ _ _ _ (I.quiet T he hsl hdst r hew h2 (hu.mono (Phi.below_le (.refl φ) (hlow (m := 0)))))
      | r q =>
        rw [hop] at hrf hcg
        obtain ⟨h1, h2⟩ := hrf
        obtain ⟨u, hr, hu⟩ := I.read T he hsl r hcg (by rw [hcls, hop]; rfl) h1 (hck k o g q ho' hg hop h1)
        unfold Oper.wp; rw [hr]
        exact hK _ _ _ _ (I.quiet T he hsl hdst r hew h2 (hu.mono (Phi.below_le (.refl φ) (hlow (m := 0)))))
      | n q =>
        rw [hop] at hrf hcg hcls
        have hcase : clsOf (.n q) = .a ∨ ∃ x, q = .conv x := by
          have : clsOf (.n q) = .a ∨ clsOf (.n q) = .e ∨ ∃ x, q = .conv x := by cases q <;> first | exact .inl rfl | exact .inr (.inl rfl) | exact .inr (.inr ⟨_, rfl⟩)
          rcases this with h | h | h
          · exact .inl h
          · exact absurd (.inl (by rw [hcls, h])) hew
          · exact .inr h
        rcases hcase with ha | ⟨x, rfl⟩
        case inr =>
          obtain ⟨u, w', hr, I'⟩ := I.conv T he hsl hdst r hcg (by rw [hcls]; rfl) hrf (hcv k g x hg hop)
          unfold Oper.wp; rw [hr]
          exact hK _ _ _ _ I'
        obtain ⟨b, hb, hall⟩ := alloc_shape ha hrf
        have hak : clsAt gs k = .a := by rw [hcls, ha]
        obtain ⟨u, w', φ1, hr, hu, H1, F1⟩ := nop_ok (I.empty (H k).nx) hcg (hlk (.inr hak)).opnds (hall .leaf)
        unfold Oper.wp; rw [hr]
        obtain ⟨φ', I'⟩ := I.lay T he hsl hdst r hak hb hu H1 F1
        exact hK _ _ _ _ I'
      | w q => exact absurd (.inr (by rw [hcls, hop]; rfl)) hew
      | call f xs => exact absurd (.inl (by rw [hcls, hop]; rfl)) hew
      | callv f xs => exact absurd (.inl (by rw [hcls, hop]; rfl)) hew

/-- What is listed. -/
def Ls (listed : Array Bool) (i : Nat) : Prop := listed.getD i false = true
theorem Ls.set {listed : Array Bool} {k : Nat} (hk : k < listed.size) : Ls (listed.setIfInBounds k true) = With (Ls listed) k := by
  funext i
  refine propext ?_
  unfold Ls With
  by_cases h : i = k
  · subst h; simp [Array.getD_eq_getD_getElem?, hk]
  · have : k ≠ i := fun e => h e.symm
    simp [Array.getD_eq_getD_getElem?, Array.getElem?_setIfInBounds_ne this, h, Ls]

theorem wpAny_inv (T : Txt P ops gs fr E H V) (h0 : HRel φ0 (H 0) w0) (he : edgesLt ops.toList = true) (hsl : SlotsOk ops) (hpr : PairsOk ops gs) (hdst : ∀ (k : Nat) (o : Oper), ops[k]? = some o → dstOk cx o.dst = true)
    (hcomp : ∀ (k : Nat) (o : Oper) (g : GOper), ops[k]? = some o → gs[k]? = some g → compOp P o = some g.op) (hck : ∀ (k : Nat) (o : Oper) (g : GOper) (q : ROp), ops[k]? = some o → gs[k]? = some g → g.op = .r q → rop (rho fr (E k)) (H k) q = some (V k) → CkFact ops gs fr E H V k o q) (hcv : ∀ (k : Nat) (g : GOper) (x : Opd), gs[k]? = some g → g.op = .n (.conv x) → ConvFact ops gs H V k)
    {Q : Exit → Act → World → Prop} (hQ : ∀ φ' a' w', EnvRel φ' fr (E ops.size) a' → HRel φ' (H ops.size) w' → Fr φ0 (H 0) w0 φ' (H ops.size) w' → a'.tmps.size = cx.nt → a'.defers = [] → Q .normal a' w') :
    ∀ (fuel : Nat) (listed : Array Bool) (c : Nat) (φ : Phi) (a : Act) (w : World), listed.size = ops.size → Inv ops gs fr E H cx φ0 w0 (Ls listed) c φ a w → (∀ l : List Nat, l.Nodup → (∀ i ∈ l, i < ops.size ∧ ¬ Ls listed i) → l.length ≤ fuel) → wpAny P .any ops Q fuel listed a w := by
  have fin : ∀ {listed : Array Bool} {c : Nat} {φ : Phi} {a : Act} {w : World}, listed.size = ops.size → Inv ops gs fr E H cx φ0 w0 (Ls listed) c φ a w → Region.ready .any ops listed = [] → Q .normal a w := by
    intro listed c φ a w hsz I hr
    have hall : ∀ i, i < ops.size → Ls listed i := by
      intro i
      induction i using Nat.strongRecOn with
      | _ i ih =>
        intro hi
        have ho : ops[i]? = some ops[i] := Array.getElem?_eq_getElem hi
        cases hl : listed.getD i false with
        | true => exact hl
        | false =>
          have : i ∈ Region.ready .any ops listed := by
            refine mem_ready.2 ⟨ops[i], ho, ?_, fun e hm hb => ?_⟩
            · rw [Array.getD_eq_getD_getElem?, Array.getElem?_eq_getElem (by omega)] at hl ⊢; exact hl
            · have hlt := edgesLt_ok he ho hm hb
              exact ih e.on hlt (by omega)
          rw [hr] at this; cases this
    obtain ⟨h1, h2, h3⟩ := I.fin T h0 hall
    exact hQ _ _ _ h1 h2 h3 I.size I.defers
  intro fuel
  induction fuel with
  | zero =>
    intro listed c φ a w hsz I hl
    have hr : Region.ready .any ops listed = [] := by
      cases hr : Region.ready .any ops listed with
      | nil => rfl
      | cons i l =>
        have hm : i ∈ Region.ready .any ops listed := by rw [hr]; simp
        obtain ⟨o, ho, h1, -⟩ := mem_ready.1 hm
        have hi := lt_of_at ho
        have := hl [i] (by simp) (fun j hj => by
          rw [List.mem_singleton] at hj; subst hj
          refine ⟨hi, ?_⟩
          unfold Ls
          rw [Array.getD_eq_getD_getElem?, Array.getElem?_eq_getElem (by omega)] at h1 ⊢
          simpa using h1)
        simp at this
    exact ⟨hr, fin hsz I hr⟩
  | succ fuel ih =>
    intro listed c φ a w hsz I hl
    refine ⟨fin hsz I, fun k hm => ?_⟩
    obtain ⟨o, ho, h1, h2⟩ := mem_ready.1 hm
    have hk := lt_of_at ho
    have hns : ¬ Ls listed k := by
      unfold Ls
      rw [Array.getD_eq_getD_getElem?, Array.getElem?_eq_getElem (by omega)] at h1 ⊢
      simpa using h1
    refine I.one T he hsl hpr hdst hcomp hck hcv ⟨ho, hns, h2⟩ fun c' φ' a' w' I' => ?_
    refine ih _ c' φ' a' w' (by simp [hsz]) (by rw [Ls.set (by omega)]; exact I') fun l hnd hl' => ?_
    have := hl (k :: l) (List.nodup_cons.2 ⟨fun hkl => (hl' k hkl).2 (by rw [Ls.set (by omega)]; exact .inl rfl), hnd⟩) (fun j hj => by
      rcases List.mem_cons.1 hj with rfl | hj
      · exact ⟨hk, hns⟩
      · refine ⟨(hl' j hj).1, fun hs => (hl' j hj).2 ?_⟩
        rw [Ls.set (by omega)]; exact .inr hs)
    simpa using this

theorem nodup_le : ∀ (n : Nat) (l : List Nat), l.Nodup → (∀ i ∈ l, i < n) → l.length ≤ n
  | 0, [], _, _ => Nat.le_refl _
  | 0, i :: l, _, h => by have := h i (by simp); omega
  | n + 1, l, hnd, h => by
    have h1 := nodup_le n (l.erase n) (hnd.erase n) (fun i hi => by
      have h2 := h i (List.mem_of_mem_erase hi)
      have h3 : i ≠ n := fun e => by subst e; exact (List.Nodup.not_mem_erase hnd) hi
      omega)
    have h2 : l.length ≤ (l.erase n).length + 1 := by
      rw [List.length_erase]; split <;> omega
    omega

end
end
end Go.Ev
