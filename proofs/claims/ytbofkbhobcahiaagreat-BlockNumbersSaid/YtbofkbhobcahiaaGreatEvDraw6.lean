/- Regions that draw: one call or store more. -/
import Derived.Test.YtbofkbhobcahiaaGreatEvDraw5
namespace Go.Ev
noncomputable section
section
variable {P : Program} {ops : Array Oper} {gs : List GOper} {fr : Tr GV} {E : Nat → Env} {H : Nat → Heap} {V : Nat → GV}
variable {cx : Cx} {φ0 φ : Phi} {w0 w : World} {S : Nat → Prop} {c : Nat} {a : Act}

/-- φ1 below m, φ from m on. -/
def Phi.join (φ1 φ : Phi) (m : Nat) : Phi := fun p => if p.nat < m then φ1 p else φ p

theorem Inv.gap (T : Txt P ops gs fr E H V) (I : Inv ops gs fr E H cx φ0 w0 S c φ a w) {k : Nat} (hk : k < ops.size) (hns : ¬ S k) (hc : c ≤ k) {p : Pos} {L : Loc} (hp : φ p = some L) : p.nat < (H k).nx.nat ∨ (H (k + 1)).nx.nat ≤ p.nat := by
  obtain ⟨-, b, m, h⟩ := I.dom p L hp
  rcases h with ⟨h1, -, -⟩ | ⟨i, h1, h2, h3, h4, h5, h6, -⟩
  · exact .inl (Nat.lt_of_lt_of_le h1 (T.nx k c hc (by omega)))
  · rcases Nat.lt_or_ge i k with h7 | h7
    · exact .inl (Nat.lt_of_lt_of_le h6 (T.nx k (i + 1) (by omega) (by omega)))
    · have : i ≠ k := fun e => hns (e ▸ h1)
      exact .inr (Nat.le_trans (T.nx i (k + 1) (by omega) (by omega)) h5)

theorem Inv.act {w' : World} {φ1 : Phi} {u : Value} (T : Txt P ops gs fr E H V) (I : Inv ops gs fr E H cx φ0 w0 S c φ a w) (he : edgesLt ops.toList = true) (hsl : SlotsOk ops) (hdst : ∀ (k : Nat) (o : Oper), ops[k]? = some o → dstOk cx o.dst = true) {k : Nat} {o : Oper} (r : Ready ops S k o)
    (hew : isEW gs k) (hpre : ∀ i, i < k → (isEW gs i ∨ clsAt gs i = .a) → S i) (hu : rel φ1 (V k) u) (H1 : HRel φ1 (H (k + 1)) w') (F1 : Fr (φ.below (H k).nx.nat) (H k) w φ1 (H (k + 1)) w') :
    ∃ φ', Inv ops gs fr E H cx φ0 w0 (With S k) (k + 1) φ' (a.put o.dst u) w' := by
  have hk := lt_of_at r.at_
  have hck : c ≤ k := by
    rcases Nat.lt_or_ge k c with h1 | h1
    · exact absurd (I.cS k h1 (.inl hew)) r.not
    · exact h1
  have hno : ∀ i, c ≤ i → i < k → ¬ isEW gs i := fun i h1 h2 h3 => by have := I.cmax i (hpre i h2 (.inl h3)) h3; omega
  have hH := I.hrel T hck (Nat.le_refl k) (by omega) hno
  have gap : ∀ {p : Pos} {L : Loc}, φ p = some L → p.nat < (H k).nx.nat ∨ (H (k + 1)).nx.nat ≤ p.nat := fun hp => I.gap T hk r.not hck hp
  have hmon := T.mon k hk
  have hle : φ.le (φ1.join φ (H (k + 1)).nx.nat) := by
    intro p L hp
    unfold Phi.join
    split
    · rename_i h1
      rcases gap hp with h2 | h2
      · exact F1.le p L (Phi.below_of h2 hp)
      · omega
    · exact hp
  have h1le : φ1.le ((φ1.join φ (H (k + 1)).nx.nat).below (H (k + 1)).nx.nat) := by
    intro p L hp
    have hlt := (H1.lt p L hp).2
    exact Phi.below_of hlt (by unfold Phi.join; rw [if_pos hlt]; exact hp)
  -- a name's object, before
  have early : ∀ {p : Pos} {L : Loc} {b : GObj} {m : Nat}, (φ1.join φ (H (k + 1)).nx.nat) p = some L → Cur ops gs H (k + 1) (With S k) p b m → (p.nat < (H (k + 1)).nx.nat ∧ φ1 p = some L ∧ b = Tr.get .gone p (H (k + 1)).t ∧ m = k + 1) ∨ ((H (k + 1)).nx.nat ≤ p.nat ∧ φ p = some L ∧ Cur ops gs H c S p b m) := by
    intro p L b m hp hc
    unfold Phi.join at hp
    rcases hc with ⟨h1, h2, h3⟩ | ⟨i, h1, h2, h3, h4, h5, h6, h7, h8⟩
    · rw [if_pos h1] at hp
      exact .inl ⟨h1, hp, h2, h3⟩
    · have h9 : (H (k + 1)).nx.nat ≤ p.nat := Nat.le_trans (T.nx i (k + 1) h2 (by omega)) h5
      rw [if_neg (by omega)] at hp
      refine .inr ⟨h9, hp, .inr ⟨i, ?_, by omega, h3, h4, h5, h6, h7, h8⟩⟩
      rcases h1 with rfl | h1
      · omega
      · exact h1
  have hcurk : ∀ q, q.nat < (H k).nx.nat → ∀ M, φ q = some M → (Tr.get GObj.gone q (H k).t).live = true → ∃ b m, Cur ops gs H c S q b m ∧ b = Tr.get .gone q (H k).t := by
    intro q hq M hM hl
    obtain ⟨-, b, m, hc⟩ := I.dom q M hM
    rcases hc with ⟨e1, e2, e3⟩ | ⟨i, e1, e2, e3, e4, e5, e6, e7, e8⟩
    · exact ⟨b, m, .inl ⟨e1, e2, e3⟩, by rw [e2, T.keep k c hck (by omega) hno e1]⟩
    · rcases Nat.lt_or_ge i k with h4 | h4
      · exact ⟨b, m, .inr ⟨i, e1, e2, e3, e4, e5, e6, e7, e8⟩, by rw [e7, T.keep k (i + 1) (by omega) (by omega) (fun l h5 h6 => hno l (by omega) h6) e6]⟩
      · have := T.nx i k h4 (by omega); omega
  have wr_back : ∀ r0, Wr (φ.below (H k).nx.nat) (H k) r0 → ∃ p L b m, φ p = some L ∧ L.r = r0 ∧ Cur ops gs H c S p b m ∧ b.wr = true := by
    rintro r0 ⟨q, M, hq, he1, hw⟩
    obtain ⟨h1, h2⟩ := Phi.below_some hq
    have hl : (Tr.get GObj.gone q (H k).t).live = true := by cases hb : Tr.get GObj.gone q (H k).t <;> rw [hb] at hw <;> first | rfl | cases hw
    obtain ⟨b, m, hc, hb⟩ := hcurk q h1 M h2 hl
    exact ⟨q, M, b, m, h2, he1, hc, by rw [hb]; exact hw⟩
  have lv_back : ∀ r0, Lv (φ.below (H k).nx.nat) (H k) r0 → ∃ p L b m, φ p = some L ∧ L.r = r0 ∧ Cur ops gs H c S p b m ∧ b.live = true ∧ p.nat < (H k).nx.nat := by
    rintro r0 ⟨q, M, hq, he1, hl⟩
    obtain ⟨h1, h2⟩ := Phi.below_some hq
    obtain ⟨b, m, hc, hb⟩ := hcurk q h1 M h2 hl
    exact ⟨q, M, b, m, h2, he1, hc, by rw [hb]; exact hl, h1⟩
  refine ⟨φ1.join φ (H (k + 1)).nx.nat, With.closed r I.closed, ?_, by omega, ?_, .inr ⟨k, rfl, .inl rfl, hew⟩, ?_, ?_, ?_, ?_, ?_, by rw [put_size]; exact I.size, by rw [put_defers']; exact I.defers, ?_, ?_, ?_, ?_, ?_, ?_, ?_, ?_, ?_⟩
  · rintro i (rfl | hi)
    · exact hk
    · exact I.lt i hi
  · intro i hi h
    rcases Nat.lt_or_ge i k with h1 | h1
    · exact .inr (hpre i h1 h)
    · exact .inl (by omega)
  · rintro i (rfl | hi) h
    · omega
    · have := I.cmax i hi h; omega
  · refine I.slot_put T he hsl hdst r hle (by omega) (by omega) ?_
    rw [Nat.max_self]
    exact hu.mono h1le
  · intro p L hp
    unfold Phi.join at hp
    split at hp
    · rename_i h1
      exact ⟨(H1.lt p L hp).1, _, _, .inl ⟨h1, rfl, rfl⟩⟩
    · rename_i h1
      obtain ⟨h2, b, m, h3⟩ := I.dom p L hp
      refine ⟨Nat.lt_of_lt_of_le h2 F1.size, ?_⟩
      rcases h3 with ⟨e1, -, -⟩ | ⟨i, e1, e2, e3, e4, e5, e6, e7, e8⟩
      · have := T.nx (k + 1) c (by omega) (by omega); omega
      · refine ⟨b, m, .inr ⟨i, .inr e1, ?_, e3, e4, e5, e6, e7, e8⟩⟩
        rcases Nat.lt_or_ge i (k + 1) with h4 | h4
        · have := T.nx (k + 1) (i + 1) (by omega) (by omega); omega
        · exact h4
  · intro p L b m hp hc
    rcases early hp hc with ⟨h1, h2, h3, h4⟩ | ⟨h1, h2, h3⟩
    · subst h3 h4
      exact relO_mono h1le (H1.obj p L h2)
    · cases hb : b.live with
      | false => cases b <;> first | trivial | cases hb
      | true =>
        have hsame : w'.heap[L.r]? = w.heap[L.r]? := by
          refine F1.same L.r (I.dom p L h2).1 fun hw => ?_
          obtain ⟨q, M, hq, e, hw⟩ := hw
          obtain ⟨h5, h6⟩ := Phi.below_some hq
          have hl : (Tr.get GObj.gone q (H k).t).live = true := by cases hb : Tr.get GObj.gone q (H k).t <;> rw [hb] at hw <;> first | rfl | cases hw
          obtain ⟨b', m', hc', hb'⟩ := hcurk q h5 M h6 hl
          have := I.inj q p M L b' b m' m h6 h2 hc' h3 (by rw [hb']; exact hl) hb e
          subst this; omega
        exact relO_other (Phi.below_le hle (Nat.le_refl _)) hsame (I.obj p L b m h2 h3)
  · intro p q L M b b' m m' hp hq hc hc' hb hb' e
    rcases early hp hc with ⟨h1, h2, h3, h4⟩ | ⟨h1, h2, h3⟩ <;> rcases early hq hc' with ⟨g1, g2, g3, g4⟩ | ⟨g1, g2, g3⟩
    · exact H1.inj p q L M h2 g2 (by rw [← h3]; exact hb) (by rw [← g3]; exact hb') e
    · exfalso
      obtain ⟨p', L', b2, m2, k1, k2, k3, k4, k5⟩ := lv_back L.r (F1.lv L.r (by rw [e]; exact (I.dom q M g2).1) ⟨p, L, h2, rfl, by rw [← h3]; exact hb⟩)
      have := I.inj p' q L' M b2 b' m2 m' k1 g2 k3 g3 k4 hb' (by rw [k2, e])
      subst this; omega
    · exfalso
      obtain ⟨p', L', b2, m2, k1, k2, k3, k4, k5⟩ := lv_back M.r (F1.lv M.r (by rw [← e]; exact (I.dom p L h2).1) ⟨q, M, g2, rfl, by rw [← g3]; exact hb'⟩)
      have := I.inj p' p L' L b2 b m2 m k1 h2 k3 h3 k4 hb (by rw [k2, e])
      subst this; omega
    · exact I.inj p q L M b b' m m' h2 g2 h3 g3 hb hb' e
  · exact I.le.trans hle
  · exact Nat.le_trans I.hsize F1.size
  · intro r0 hr hn
    rw [F1.same r0 (Nat.lt_of_lt_of_le hr I.hsize) fun hw => hn (I.wr r0 hr (wr_back r0 hw))]
    exact I.same r0 hr hn
  · rintro r0 hr ⟨p, L, b, m, hp, e, hc, hw⟩
    rcases early hp hc with ⟨h1, h2, h3, h4⟩ | ⟨h1, h2, h3⟩
    · exact I.wr r0 hr (wr_back r0 (F1.wr r0 (Nat.lt_of_lt_of_le hr I.hsize) ⟨p, L, h2, e, by rw [← h3]; exact hw⟩))
    · exact I.wr r0 hr ⟨p, L, b, m, h2, e, h3, hw⟩
  · rintro r0 hr ⟨p, L, b, m, hp, e, hc, hw⟩
    rcases early hp hc with ⟨h1, h2, h3, h4⟩ | ⟨h1, h2, h3⟩
    · obtain ⟨p', L', b2, m2, k1, k2, k3, k4, k5⟩ := lv_back r0 (F1.lv r0 (Nat.lt_of_lt_of_le hr I.hsize) ⟨p, L, h2, e, by rw [← h3]; exact hw⟩)
      exact I.lv r0 hr ⟨p', L', b2, m2, k1, k2, k3, k4⟩
    · exact I.lv r0 hr ⟨p, L, b, m, h2, e, h3, hw⟩
  · intro p L hp hn
    unfold Phi.join at hp
    split at hp
    · cases hq : (φ.below (H k).nx.nat) p with
      | none => exact Nat.le_trans (T.nx k 0 (by omega) (by omega)) (F1.ids p L hp hq)
      | some M => exact I.ids p M (Phi.below_some hq).2 hn
    · exact I.ids p L hp hn
  · exact F1.tape.trans I.tape
  · exact F1.os.trans I.os
  · exact F1.output.trans I.output

end
end
end Go.Ev
