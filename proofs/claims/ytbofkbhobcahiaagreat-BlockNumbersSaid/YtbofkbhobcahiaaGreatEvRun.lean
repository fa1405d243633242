/- Closed runs, in parts: what is held between two parts; blocks that nobody names are let go. -/
import Derived.Test.YtbofkbhobcahiaaGreatEvCode
namespace Go.Ev
noncomputable section
section
variable {P : Program}

/-- The state between two parts of a run that began in w0 with no names. -/
structure Good (cx : Cx) (w0 : World) (fr : Tr GV) (h : Heap) (φ : Phi) (a : Act) (w : World) : Prop where
  fr : FrRel cx φ fr a
  rel : HRel φ h w
  lv : ∀ r, Lv φ h r → w0.heap.size ≤ r
  size : w0.heap.size ≤ w.heap.size
  same : ∀ r, r < w0.heap.size → w.heap[r]? = w0.heap[r]?
  tape : w.tape = w0.tape
  os : w.os = w0.os
  output : w.output = w0.output

theorem wr_lv {φ : Phi} {h : Heap} {r : Nat} (hw : Wr φ h r) : Lv φ h r := by
  obtain ⟨p, L, h1, h2, h3⟩ := hw
  refine ⟨p, L, h1, h2, ?_⟩
  cases hb : Tr.get GObj.gone p h.t <;> rw [hb] at h3 <;> first | rfl | cases h3

theorem Good.step {cx : Cx} {w0 w w' : World} {fr fr' : Tr GV} {h h' : Heap} {φ φ' : Phi} {a a' : Act} (G : Good cx w0 fr h φ a w) (hf : FrRel cx φ' fr' a') (H : HRel φ' h' w') (F : Fr φ h w φ' h' w') : Good cx w0 fr' h' φ' a' w' where
  fr := hf
  rel := H
  lv r hr := by
    rcases Nat.lt_or_ge r w.heap.size with h1 | h1
    · exact G.lv r (F.lv r h1 hr)
    · exact Nat.le_trans G.size h1
  size := Nat.le_trans G.size F.size
  same r hr := by
    rw [F.same r (Nat.lt_of_lt_of_le hr G.size) fun hw => by have := G.lv r (wr_lv hw); omega]
    exact G.same r hr
  tape := F.tape.trans G.tape
  os := F.os.trans G.os
  output := F.output.trans G.output

def CGo (P : Program) (cx : Cx) (c : Code) (fr : Tr GV) (h : Heap) (e : Nat) (fr' : Tr GV) (h' : Heap) : Prop :=
  ∀ w0 φ a w, Good cx w0 fr h φ a w → ∀ Q, (∀ φ' a' w', Good cx w0 fr' h' φ' a' w' → Q (exitOf e) a' w') → Cwp P c Q a w
theorem CDoes.go {cx : Cx} {c : Code} {fr : Tr GV} {h : Heap} {e : Nat} {fr' : Tr GV} {h' : Heap} (hd : CDoes P cx c fr h e fr' h') : CGo P cx c fr h e fr' h' :=
  fun _ φ a w G Q hq => hd φ a w G.fr G.rel Q fun φ' a' w' hf H F => hq φ' a' w' (G.step hf H F)

/-- Whatever code has this ghost code. -/
def GGo (P : Program) (cx : Cx) (g : GCode) (fr : Tr GV) (h : Heap) (e : Nat) (fr' : Tr GV) (h' : Heap) : Prop := ∀ c, compCode P cx c = some g → CGo P cx c fr h e fr' h'

def k0 : K := fun e fr h => some (.st e fr h)

theorem GGo.exec (hm : P.follows .mixedOrders = true) {T : Tr GTab} (hT : TabOk P T) {cx : Cx} (n : Nat) {g : GCode} {fr : Tr GV} {h : Heap} {e : Nat} {fr' : Tr GV} {h' : Heap} (hg : Go.Ev.exec T n g fr h k0 = some (.st e fr' h')) : GGo P cx g fr h e fr' h' := by
  intro c hc
  obtain ⟨e1, fr1, h1, h2, hd⟩ := code_ok hm hT n cx c g fr h k0 _ hc hg
  cases h2
  exact hd.go

theorem scope_go {cx : Cx} {c : Code} {fr : Tr GV} {h : Heap} {e : Nat} {fr' : Tr GV} {h' : Heap} (hc : CGo P cx c fr h e fr' h') : CGo P cx (.scope c) fr h e fr' h' :=
  fun w0 φ a w G Q hq => wp_scope_straight (hc w0 φ a w G _ fun φ' a' w' G' => noGoto_exit e (hq φ' a' w' G')).wp
theorem const_go {cx : Cx} {b : Bool} {x y : Code} {fr : Tr GV} {h : Heap} {e : Nat} {fr' : Tr GV} {h' : Heap} (hc : CGo P cx (if b then x else y) fr h e fr' h') : CGo P cx (.cond (.const (.bool b)) x y) fr h e fr' h' := by
  intro w0 φ a w G Q hq
  refine wp_cond (t := b) rfl ?_
  cases b <;> exact (hc w0 φ a w G Q hq).wp

/-- What code has this ghost code, but for scopes and branches that are decided. -/
theorem comp_ind {cx : Cx} {g : GCode} {M : Code → Prop} (hs : ∀ c, M c → M (.scope c)) (ht : ∀ b x y, M (if b then x else y) → M (.cond (.const (.bool b)) x y))
    (hseq : ∀ x y gx gy, compCode P cx x = some gx → compCode P cx y = some gy → g = .seq gx gy → M (.seq x y)) (hblock : ∀ n x gx, compCode P cx x = some gx → g = .block n gx → M (.block n x)) (hloop : ∀ x gx, compCode P cx x = some gx → g = .loop gx → M (.loop x))
    (hcond : ∀ t x y gx gy, compCode P cx x = some gx → compCode P cx y = some gy → g = .cond t (Pos.of t) gx gy → M (.cond (.tmp t) x y))
    (hne : (∃ x y, g = .seq x y) ∨ (∃ n x, g = .block n x) ∨ (∃ x, g = .loop x) ∨ (∃ t p x y, g = .cond t p x y)) : ∀ c, compCode P cx c = some g → M c := by
  intro c
  induction c with
  | seq x y _ _ =>
    intro hc
    obtain ⟨gx, gy, h1, h2, h3⟩ : ∃ gx gy, compCode P cx x = some gx ∧ compCode P cx y = some gy ∧ g = .seq gx gy := by
      simp only [compCode] at hc
      revert hc
      cases compCode P cx x <;> cases compCode P cx y <;> intro hc <;> first | (cases hc; done) | exact ⟨_, _, rfl, rfl, (Option.some.inj hc).symm⟩
    exact hseq x y gx gy h1 h2 h3
  | block n x _ => intro hc; obtain ⟨gx, h1, rfl⟩ := map_some hc; exact hblock n x gx h1 rfl
  | loop x _ => intro hc; obtain ⟨gx, h1, rfl⟩ := map_some hc; exact hloop x gx h1 rfl
  | scope x ih => intro hc; exact hs x (ih hc)
  | cond x a b iha ihb =>
    intro hc
    simp only [compCode] at hc
    split at hc <;> try cases hc
    · rename_i t gx gy h1 h2
      exact hcond t a b gx gy h1 h2 rfl
    · rename_i u gx gy h1 h2
      refine ht u a b ?_
      cases u
      · exact ihb h2
      · exact iha h1
  | _ =>
    intro hc
    first
      | (cases hc; done)
      | (exfalso
         simp only [compCode, Option.some.injEq] at hc
         subst hc
         rcases hne with ⟨_, _, e⟩ | ⟨_, _, e⟩ | ⟨_, e⟩ | ⟨_, _, _, _, e⟩ <;> cases e)
      | (exfalso
         obtain ⟨_, _, rfl⟩ := map_some hc
         rcases hne with ⟨_, _, e⟩ | ⟨_, _, e⟩ | ⟨_, e⟩ | ⟨_, _, _, _, e⟩ <;> cases e)

theorem GGo.seq {cx : Cx} {x y : GCode} {fr fr1 fr2 : Tr GV} {h h1 h2 : Heap} {e : Nat} (hx : GGo P cx x fr h 0 fr1 h1) (hy : GGo P cx y fr1 h1 e fr2 h2) : GGo P cx (.seq x y) fr h e fr2 h2 := by
  refine comp_ind (fun c h => scope_go h) (fun b x y h => const_go h) (fun a b gx gy h3 h4 e => ?_) (fun _ _ _ _ e => by cases e) (fun _ _ _ e => by cases e) (fun _ _ _ _ _ _ _ e => by cases e) (.inl ⟨_, _, rfl⟩)
  cases e
  exact fun w0 φ a w G Q hq => wp_seq (hx _ h3 w0 φ a w G _ fun φ' a' w' G' => (hy _ h4 w0 φ' a' w' G' Q hq).wp).wp
theorem GGo.seq_out {cx : Cx} {x y : GCode} {fr fr1 : Tr GV} {h h1 : Heap} {e : Nat} (hx : GGo P cx x fr h (e + 1) fr1 h1) : GGo P cx (.seq x y) fr h (e + 1) fr1 h1 := by
  refine comp_ind (fun c h => scope_go h) (fun b x y h => const_go h) (fun a b gx gy h3 h4 e => ?_) (fun _ _ _ _ e => by cases e) (fun _ _ _ e => by cases e) (fun _ _ _ _ _ _ _ e => by cases e) (.inl ⟨_, _, rfl⟩)
  cases e
  refine fun w0 φ a w G Q hq => wp_seq (hx _ h3 w0 φ a w G _ fun φ' a' w' G' => ?_).wp
  have := hq φ' a' w' G'
  cases e <;> exact this
theorem GGo.block {cx : Cx} {n : Nat} {x : GCode} {fr fr1 : Tr GV} {h h1 : Heap} (hx : GGo P cx x fr h (n + 2) fr1 h1) : GGo P cx (.block n x) fr h 0 fr1 h1 := by
  refine comp_ind (fun c h => scope_go h) (fun b x y h => const_go h) (fun _ _ _ _ _ _ e => by cases e) (fun n a ga h3 e => ?_) (fun _ _ _ e => by cases e) (fun _ _ _ _ _ _ _ e => by cases e) (.inr (.inl ⟨_, _, rfl⟩))
  cases e
  refine fun w0 φ a w G Q hq => wp_block (hx _ h3 w0 φ a w G _ fun φ' a' w' G' => ?_).wp
  show if n = n then _ else _
  rw [if_pos rfl]; exact hq φ' a' w' G'
theorem GGo.block_by {cx : Cx} {n e : Nat} {x : GCode} {fr fr1 : Tr GV} {h h1 : Heap} (hx : GGo P cx x fr h e fr1 h1) (he : e ≠ n + 2) : GGo P cx (.block n x) fr h e fr1 h1 := by
  refine comp_ind (fun c h => scope_go h) (fun b x y h => const_go h) (fun _ _ _ _ _ _ e => by cases e) (fun n a ga h3 e => ?_) (fun _ _ _ e => by cases e) (fun _ _ _ _ _ _ _ e => by cases e) (.inr (.inl ⟨_, _, rfl⟩))
  cases e
  refine fun w0 φ a w G Q hq => wp_block (hx _ h3 w0 φ a w G _ fun φ' a' w' G' => ?_).wp
  have := hq φ' a' w' G'
  match e, he, this with
  | 0, _, this => exact this
  | 1, _, this => exact this
  | j + 2, he, this =>
    show if j = n then _ else _
    rw [if_neg fun e => he (by rw [e])]; exact this
theorem GGo.cond {cx : Cx} {t : Nat} {p : Pos} {x y : GCode} {fr fr1 : Tr GV} {h h1 : Heap} {e : Nat} (b : Bool) (ht : Tr.get .bad p fr = .bool b) (hx : GGo P cx (if b then x else y) fr h e fr1 h1) : GGo P cx (.cond t p x y) fr h e fr1 h1 := by
  refine comp_ind (fun c h => scope_go h) (fun b x y h => const_go h) (fun _ _ _ _ _ _ e => by cases e) (fun _ _ _ _ e => by cases e) (fun _ _ _ e => by cases e) (fun t u v gu gv h3 h4 e => ?_) (.inr (.inr (.inr ⟨_, _, _, _, rfl⟩)))
  cases e
  intro w0 φ a w G Q hq
  have hval : a.eval (.tmp t) = .bool b := by
    have := G.fr.slot t
    rw [ht] at this
    exact this
  cases b
  · exact wp_cond hval (hx _ h4 w0 φ a w G Q hq).wp
  · exact wp_cond hval (hx _ h3 w0 φ a w G Q hq).wp

theorem loop_go {cx : Cx} {c : Code} {fr fr1 fr2 : Tr GV} {h h1 h2 : Heap} {e : Nat} (hc : CGo P cx c fr h 0 fr1 h1) (hl : CGo P cx (.loop c) fr1 h1 e fr2 h2) : CGo P cx (.loop c) fr h e fr2 h2 :=
  fun w0 φ a w G Q hq => loopIn_step (hc w0 φ a w G _ fun φ' a' w' G' => hl w0 φ' a' w' G' Q hq).wp
theorem loop_out {cx : Cx} {c : Code} {fr fr1 : Tr GV} {h h1 : Heap} {e : Nat} (hc : CGo P cx c fr h (e + 1) fr1 h1) : CGo P cx (.loop c) fr h (e + 1) fr1 h1 := by
  refine fun w0 φ a w G Q hq => loopIn_step (hc w0 φ a w G _ fun φ' a' w' G' => ?_).wp
  have := hq φ' a' w' G'
  cases e <;> exact this

/-- Rounds of a loop. -/
def GRounds (P : Program) (cx : Cx) (g : GCode) (fr : Tr GV) (h : Heap) (fr' : Tr GV) (h' : Heap) : Prop :=
  ∀ c, compCode P cx c = some g → ∀ e fr2 h2, CGo P cx (.loop c) fr' h' e fr2 h2 → CGo P cx (.loop c) fr h e fr2 h2
def rounds (T : Tr GTab) (n : Nat) (g : GCode) (m : Nat) : Tr GV → Heap → R :=
  Nat.rec (motive := fun _ => Tr GV → Heap → R) (fun fr h => some (.st 0 fr h)) (fun _ ih fr h => Go.Ev.exec T n g fr h fun e fr h => Nat.casesOn (motive := fun _ => R) e (ih fr h) (fun _ => none)) m
theorem GRounds.run (hm : P.follows .mixedOrders = true) {T : Tr GTab} (hT : TabOk P T) {cx : Cx} (n : Nat) {g : GCode} : ∀ (m : Nat) {fr : Tr GV} {h : Heap} {e : Nat} {fr' : Tr GV} {h' : Heap}, rounds T n g m fr h = some (.st e fr' h') → GRounds P cx g fr h fr' h' := by
  intro m
  induction m with
  | zero => intro fr h e fr' h' hg; cases hg; exact fun _ _ _ _ _ h => h
  | succ m ih =>
    intro fr h e fr' h' hg c hc e2 fr2 h2 hl
    have hg1 : Go.Ev.exec T n g fr h (fun e fr h => Nat.casesOn (motive := fun _ => R) e (rounds T n g m fr h) (fun _ => none)) = some (.st e fr' h') := hg
    obtain ⟨e1, fr1, h1, h3, hd⟩ := code_ok hm hT n cx c g fr h _ _ hc hg1
    cases e1 with
    | zero => exact loop_go hd.go (ih h3 c hc e2 fr2 h2 hl)
    | succ e1 => cases h3
theorem GRounds.trans {cx : Cx} {g : GCode} {fr fr1 fr2 : Tr GV} {h h1 h2 : Heap} (a : GRounds P cx g fr h fr1 h1) (b : GRounds P cx g fr1 h1 fr2 h2) : GRounds P cx g fr h fr2 h2 :=
  fun c hc e fr3 h3 hl => a c hc e fr3 h3 (b c hc e fr3 h3 hl)
theorem GRounds.one {cx : Cx} {g : GCode} {fr fr1 : Tr GV} {h h1 : Heap} (a : GGo P cx g fr h 0 fr1 h1) : GRounds P cx g fr h fr1 h1 :=
  fun c hc _ _ _ hl => loop_go (a c hc) hl
/-- The last round leaves. -/
theorem GGo.loop {cx : Cx} {g : GCode} {fr fr1 fr2 : Tr GV} {h h1 h2 : Heap} {e : Nat} (a : GRounds P cx g fr h fr1 h1) (b : GGo P cx g fr1 h1 (e + 1) fr2 h2) : GGo P cx (.loop g) fr h (e + 1) fr2 h2 := by
  refine comp_ind (fun c h => scope_go h) (fun b x y h => const_go h) (fun _ _ _ _ _ _ e => by cases e) (fun _ _ _ _ e => by cases e) (fun c gc h3 e => ?_) (fun _ _ _ _ _ _ _ e => by cases e) (.inr (.inr (.inl ⟨_, rfl⟩)))
  cases e
  exact a _ h3 _ _ _ (loop_out (b _ h3))

/-! Blocks that are let go. -/
def keepP (s : Tr Bool) (p : Pos) : Bool := Tr.get false p s
def keepF (s : Tr Bool) : List GV → Bool
  | [] => true
  | .ptr p _ :: l => ifb (keepP s p) (keepF s l) false
  | _ :: _ => false
def keepC (s : Tr Bool) (v : GV) : Bool :=
  match v with
  | .ptr p _ => keepP s p
  | .sl p _ _ _ _ => keepP s p
  | .chn p => keepP s p
  | .fn _ cs => keepF s cs
  | .agg _ => false
  | .tup _ => false
  | _ => true
def keepL (s : Tr Bool) : List GV → Bool
  | [] => true
  | v :: l => ifb (keepC s v) (keepL s l) false
def keepV (s : Tr Bool) (v : GV) : Bool := match v with | .agg l => keepL s l | .tup [] => true | v => keepC s v
def keepFr (s : Tr Bool) (fr : Tr GV) : Bool :=
  Tr.rec (motive := fun _ => Bool) true (fun _ v _ il ir => ifb (keepV s v) (ifb il ir false) false) fr
def keepO (s : Tr Bool) (b : GObj) : Bool :=
  match b with
  | .gone => true
  | .cells l _ _ => keepL s l
  | .pk _ _ _ _ _ => true
  | .chan _ l => keepL s l
/-- What is kept of a heap. -/
def gcT (s : Tr Bool) : Tr GObj → (Tr GObj → R) → R :=
  Tr.rec (motive := fun _ => Tr GObj → (Tr GObj → R) → R) (fun _ k => k .leaf)
    (fun _ b _ il ir t k => Tr.casesOn (motive := fun _ => R) t (il .leaf fun l => ir .leaf fun r => k (.node l .gone r)) (fun tl v tr => il tl fun l => ir tr fun r => k (.node l (ifb b v .gone) r))) s
def keepH (s : Tr Bool) (t : Tr GObj) : Bool :=
  Tr.rec (motive := fun _ => Bool) true (fun _ v _ il ir => ifb (keepO s v) (ifb il ir false) false) t
def gcOut (s : Tr Bool) (r : R) : R :=
  match r with
  | some (.st e fr ⟨t, nx⟩) => gcT s t fun t => ifb (keepFr s fr) (ifb (keepH s t) (some (.st e fr ⟨t, nx⟩)) none) none
  | _ => none

def gcTr : Tr Bool → Tr GObj → Tr GObj
  | .leaf, _ => .leaf
  | .node sl _ sr, .leaf => .node (gcTr sl .leaf) .gone (gcTr sr .leaf)
  | .node sl b sr, .node l v r => .node (gcTr sl l) (if b then v else .gone) (gcTr sr r)
theorem gcT_eq : ∀ (s : Tr Bool) (t : Tr GObj) (k : Tr GObj → R), gcT s t k = k (gcTr s t)
  | .leaf, t, k => by cases t <;> rfl
  | .node sl b sr, .leaf, k => by
    show gcT sl .leaf (fun l => gcT sr .leaf fun r => k (.node l .gone r)) = _
    rw [gcT_eq sl, gcT_eq sr]; rfl
  | .node sl b sr, .node l v r, k => by
    show gcT sl l (fun l => gcT sr r fun r => k (.node l (ifb b v .gone) r)) = _
    rw [gcT_eq sl, gcT_eq sr, ifb_eq]; rfl
theorem gcTr_get : ∀ (s : Tr Bool) (t : Tr GObj) (p : Pos), Tr.get .gone p (gcTr s t) = if keepP s p then Tr.get .gone p t else .gone
  | .leaf, t, p => by simp [gcTr, keepP, Tr.get_leaf]
  | .node sl b sr, .leaf, .h => by cases b <;> rfl
  | .node sl b sr, .leaf, .o p => by
    show Tr.get .gone p (gcTr sl .leaf) = if keepP sl p then Tr.get .gone (.o p) .leaf else .gone
    rw [gcTr_get sl .leaf p, Tr.get_leaf, Tr.get_leaf]
  | .node sl b sr, .leaf, .i p => by
    show Tr.get .gone p (gcTr sr .leaf) = if keepP sr p then Tr.get .gone (.i p) .leaf else .gone
    rw [gcTr_get sr .leaf p, Tr.get_leaf, Tr.get_leaf]
  | .node sl b sr, .node l v r, .h => by cases b <;> rfl
  | .node sl b sr, .node l v r, .o p => gcTr_get sl l p
  | .node sl b sr, .node l v r, .i p => gcTr_get sr r p

def Phi.keep (φ : Phi) (s : Tr Bool) : Phi := fun p => if keepP s p then φ p else none
theorem Phi.keep_of {φ : Phi} {s : Tr Bool} {p : Pos} {L : Loc} (h : keepP s p = true) (hp : φ p = some L) : φ.keep s p = some L := by unfold Phi.keep; rw [if_pos h, hp]
theorem Phi.keep_some {φ : Phi} {s : Tr Bool} {p : Pos} {L : Loc} (hp : φ.keep s p = some L) : keepP s p = true ∧ φ p = some L := by
  unfold Phi.keep at hp
  split at hp
  · exact ⟨by assumption, hp⟩
  · cases hp

theorem ifb_both {a b : Bool} (h : ifb a b false = true) : a = true ∧ b = true := by cases a <;> simp_all [ifb]
theorem keepF_ok {s : Tr Bool} {φ : Phi} : ∀ {l : List GV} {vs : List Value}, keepF s l = true → All2 (relP φ) l vs → All2 (relP (φ.keep s)) l vs
  | [], [], _, _ => trivial
  | x :: l, v :: vs, h, hr => by
    obtain ⟨h1, h2⟩ := hr
    cases x <;> first | (exact h1.elim; done) | skip
    rename_i p o
    obtain ⟨g1, g2⟩ := ifb_both h
    obtain ⟨L, hp, hv⟩ := h1
    exact ⟨⟨L, Phi.keep_of g1 hp, hv⟩, keepF_ok g2 h2⟩
theorem keepC_ok {s : Tr Bool} {φ : Phi} {v : GV} {u : Value} (h : keepC s v = true) (hr : relC φ v u) : relC (φ.keep s) v u := by
  cases v <;> simp only [keepC, Bool.false_eq_true] at h <;> simp only [relC] at hr ⊢ <;> first | exact hr | skip
  · obtain ⟨L, hp, hv⟩ := hr; exact ⟨L, Phi.keep_of h hp, hv⟩
  · obtain ⟨L, c, hp, hv⟩ := hr; exact ⟨L, c, Phi.keep_of h hp, hv⟩
  · obtain ⟨g, cs', hv, hf, ha⟩ := hr; exact ⟨g, cs', hv, hf, keepF_ok h ha⟩
  · obtain ⟨L, hp, hv⟩ := hr; exact ⟨L, Phi.keep_of h hp, hv⟩
theorem keepL_ok {s : Tr Bool} {φ : Phi} : ∀ {l : List GV} {vs : List Value}, keepL s l = true → All2 (relC φ) l vs → All2 (relC (φ.keep s)) l vs
  | [], [], _, _ => trivial
  | x :: l, v :: vs, h, hr => by
    obtain ⟨g1, g2⟩ := ifb_both h
    exact ⟨keepC_ok g1 hr.1, keepL_ok g2 hr.2⟩
theorem keepL_get {s : Tr Bool} : ∀ {l : List GV} {i : Nat} {g : GV}, keepL s l = true → l[i]? = some g → keepC s g = true
  | [], i, g, _, h => by simp at h
  | x :: l, 0, g, h, hg => by simp at hg; subst hg; exact (ifb_both h).1
  | x :: l, i + 1, g, h, hg => keepL_get (ifb_both h).2 (by simpa using hg)
theorem keepV_ok {s : Tr Bool} {φ : Phi} {v : GV} {u : Value} (h : keepV s v = true) (hr : rel φ v u) : rel (φ.keep s) v u := by
  unfold keepV at h
  split at h
  · obtain ⟨cs, hv, ha⟩ := hr; exact ⟨cs, hv, keepL_ok h ha⟩
  · obtain ⟨vs, hv, ha⟩ := hr
    match hl : vs.toList, ha with
    | [], _ => exact ⟨vs, hv, by rw [hl]; trivial⟩
  · rename_i h1 h2
    cases v
    case bad => trivial
    case agg l => exact absurd rfl (h1 l)
    case tup l => cases h
    all_goals (have := keepC_ok (φ := φ) (u := u) h hr; exact this)
theorem keepFr_ok {s : Tr Bool} : ∀ {fr : Tr GV}, keepFr s fr = true → ∀ p, keepV s (Tr.get .bad p fr) = true
  | .leaf, _, p => by rw [Tr.get_leaf]; rfl
  | .node l v r, h, p => by
    obtain ⟨h1, h2⟩ := ifb_both (show ifb (keepV s v) (ifb (keepFr s l) (keepFr s r) false) false = true from h)
    obtain ⟨h3, h4⟩ := ifb_both h2
    cases p with
    | h => exact h1
    | o p => exact keepFr_ok h3 p
    | i p => exact keepFr_ok h4 p
theorem keepH_ok {s : Tr Bool} : ∀ {t : Tr GObj}, keepH s t = true → ∀ p, keepO s (Tr.get .gone p t) = true
  | .leaf, _, p => by rw [Tr.get_leaf]; rfl
  | .node l v r, h, p => by
    obtain ⟨h1, h2⟩ := ifb_both (show ifb (keepO s v) (ifb (keepH s l) (keepH s r) false) false = true from h)
    obtain ⟨h3, h4⟩ := ifb_both h2
    cases p with
    | h => exact h1
    | o p => exact keepH_ok h3 p
    | i p => exact keepH_ok h4 p
theorem unpack_keep {s : Tr Bool} (k : IntKind) (w n : Nat) : ∀ (len i : Nat), keepL s (unpack k w n i len) = true
  | 0, _ => rfl
  | len + 1, i => unpack_keep k w n len (i + 1)
theorem keepO_ok {s : Tr Bool} {φ : Phi} {w : World} {b : GObj} {L : Loc} (h : keepO s b = true) (hr : relO φ w b L) : relO (φ.keep s) w b L := by
  cases b with
  | gone => trivial
  | chan cap buf => obtain ⟨b, x, y, h1, h2⟩ := hr; exact ⟨b, x, y, h1, keepL_ok h h2⟩
  | cells l sz ro =>
    obtain ⟨c, T, fz, R⟩ := (relO_row (o := .cells l sz ro) rfl).1 hr
    exact (relO_row (o := .cells l sz ro) rfl).2 ⟨c, T, fz, ⟨R.at_, R.size, R.elem, R.frz, fun i g hg => by
      obtain ⟨v, h1, h2⟩ := R.cell i g hg
      exact ⟨v, h1, keepC_ok (keepL_get h hg) h2⟩⟩⟩
  | pk k w1 len n ro =>
    obtain ⟨c, T, fz, R⟩ := (relO_row (o := .pk k w1 len n ro) rfl).1 hr
    exact (relO_row (o := .pk k w1 len n ro) rfl).2 ⟨c, T, fz, ⟨R.at_, R.size, R.elem, R.frz, fun i g hg => by
      obtain ⟨v, h1, h2⟩ := R.cell i g hg
      exact ⟨v, h1, keepC_ok (keepL_get (unpack_keep _ _ _ _ _) hg) h2⟩⟩⟩

theorem Good.gc {cx : Cx} {w0 w : World} {fr : Tr GV} {h : Heap} {φ : Phi} {a : Act} {s : Tr Bool} (G : Good cx w0 fr h φ a w) (h1 : keepFr s fr = true) (h2 : keepH s (gcTr s h.t) = true) : Good cx w0 fr ⟨gcTr s h.t, h.nx⟩ (φ.keep s) a w where
  fr := ⟨fun t => keepV_ok (keepFr_ok h1 _) (G.fr.slot t), G.fr.bad, G.fr.size, G.fr.defers⟩
  rel := {
    obj := fun p L hp => by
      obtain ⟨g1, g2⟩ := Phi.keep_some hp
      have := keepH_ok h2 p
      have hg := gcTr_get s h.t p
      rw [if_pos g1] at hg
      simp only [hg] at this ⊢
      exact keepO_ok this (G.rel.obj p L g2)
    lt := fun p L hp => G.rel.lt p L (Phi.keep_some hp).2
    inj := fun p q L M hp hq l1 l2 e => by
      obtain ⟨g1, g2⟩ := Phi.keep_some hp
      obtain ⟨g3, g4⟩ := Phi.keep_some hq
      simp only [gcTr_get, if_pos g1, if_pos g3] at l1 l2
      exact G.rel.inj p q L M g2 g4 l1 l2 e
    new := fun p hp => by
      simp only [gcTr_get]
      split
      · exact G.rel.new p hp
      · rfl }
  lv r hr := by
    obtain ⟨p, L, hp, e, hl⟩ := hr
    obtain ⟨g1, g2⟩ := Phi.keep_some hp
    simp only [gcTr_get, if_pos g1] at hl
    exact G.lv r ⟨p, L, g2, e, hl⟩
  size := G.size
  same := G.same
  tape := G.tape
  os := G.os
  output := G.output

theorem gcOut_some {s : Tr Bool} {r : R} {e : Nat} {fr : Tr GV} {h : Heap} (hg : gcOut s r = some (.st e fr h)) : ∃ h', r = some (.st e fr h') ∧ h = ⟨gcTr s h'.t, h'.nx⟩ ∧ keepFr s fr = true ∧ keepH s (gcTr s h'.t) = true := by
  unfold gcOut at hg
  split at hg <;> try cases hg
  rename_i e' fr' t nx
  rw [gcT_eq] at hg
  obtain ⟨h1, h2⟩ := ifb_some hg
  obtain ⟨h3, h4⟩ := ifb_some h2
  cases h4
  exact ⟨_, rfl, rfl, h1, h3⟩
theorem CGo.gc {cx : Cx} {c : Code} {fr fr' : Tr GV} {h h' : Heap} {e : Nat} {s : Tr Bool} (hd : CGo P cx c fr h e fr' h') (h1 : keepFr s fr' = true) (h2 : keepH s (gcTr s h'.t) = true) : CGo P cx c fr h e fr' ⟨gcTr s h'.t, h'.nx⟩ :=
  fun w0 φ a w G Q hq => hd w0 φ a w G Q fun φ' a' w' G' => hq _ a' w' (G'.gc h1 h2)
theorem GGo.run (hm : P.follows .mixedOrders = true) {T : Tr GTab} (hT : TabOk P T) {cx : Cx} (n : Nat) {s : Tr Bool} {g : GCode} {fr : Tr GV} {h : Heap} {e : Nat} {fr' : Tr GV} {h' : Heap} (hg : gcOut s (Go.Ev.exec T n g fr h k0) = some (.st e fr' h')) : GGo P cx g fr h e fr' h' := by
  obtain ⟨h1, h2, rfl, h3, h4⟩ := gcOut_some hg
  exact fun c hc => (GGo.exec hm hT n h2 c hc).gc h3 h4
theorem GRounds.runs (hm : P.follows .mixedOrders = true) {T : Tr GTab} (hT : TabOk P T) {cx : Cx} (n m : Nat) {s : Tr Bool} {g : GCode} {fr : Tr GV} {h : Heap} {e : Nat} {fr' : Tr GV} {h' : Heap} (hg : gcOut s (rounds T n g m fr h) = some (.st e fr' h')) : GRounds P cx g fr h fr' h' := by
  obtain ⟨h1, h2, rfl, h3, h4⟩ := gcOut_some hg
  intro c hc e2 fr2 hh2 hl
  refine GRounds.run hm hT n m h2 c hc e2 fr2 hh2 fun w0 φ a w G Q hq => hl w0 _ a w (G.gc h3 h4) Q hq

/-- A call without arguments whose run is known. -/
theorem calls_of_go {f : Nat} {fn : Func} {nargs : Nat} {tr : List Nat} {g : GFunc} (hf : P.funcs[f]? = some fn) (hc : Comp P fn nargs tr g) {e : Nat} {fr : Tr GV} {h h' : Heap} {b : Bool} (hgo : GGo P ⟨nargs, fn.ntmps, tr⟩ g.body .leaf ⟨.leaf, .h⟩ e fr h)
    (hres : ifb (Nat.ble e 1) (g.res fr h fun v h => some (.val v h)) none = some (.val (.bool b) h')) (w : World) : Calls P f #[] w fun e' w' => e' = .returned (.bool b) ∧ w.heap.size ≤ w'.heap.size ∧ (∀ r, r < w.heap.size → w'.heap[r]? = w.heap[r]?) ∧ w'.tape = w.tape ∧ w'.os = w.os ∧ w'.output = w.output := by
  obtain ⟨c, rs, hb, hname, hn, hcc, hcr, hr, hna⟩ := hc
  obtain ⟨he, h2⟩ := ifb_some hres
  rw [hr] at h2
  obtain ⟨v, h3, hrun⟩ := results_ok (cx := ⟨nargs, fn.ntmps, tr⟩) hcr h2
  cases h3
  have G : Good ⟨nargs, fn.ntmps, tr⟩ w .leaf ⟨.leaf, .h⟩ (fun _ => none) { tmps := #[] ++ Array.replicate (fn.ntmps - 0) undef, defers := [] } w := {
    fr := start_rel (c := ⟨nargs, fn.ntmps, tr⟩) (args := []) (vs := #[]) trivial (Nat.zero_le _) hn
    rel := ⟨fun p L h => (by cases h), fun p L h => (by cases h), fun p q L M h => (by cases h), fun p _ => Tr.get_leaf _ _⟩
    lv := fun r ⟨p, L, h, _⟩ => by cases h
    size := Nat.le_refl _
    same := fun _ _ => rfl
    tape := rfl
    os := rfl
    output := rfl }
  refine calls_of_wp hf hb (hgo c hcc w _ _ w G _ fun φ' a' w' G' => ?_).wp
  obtain ⟨u, hu, hrel⟩ := hrun φ' a' w' G'.fr G'.rel
  have hrel : u = .bool b := hrel
  subst hrel
  have he := nat_ble he
  have fin : a'.defers = [] ∧ ∃ v, (results fn a'.tmps).run P w' = .ok v w' ∧ (Ending.returned v = .returned (.bool b) ∧ w.heap.size ≤ w'.heap.size ∧ (∀ r, r < w.heap.size → w'.heap[r]? = w.heap[r]?) ∧ w'.tape = w.tape ∧ w'.os = w.os ∧ w'.output = w.output) :=
    ⟨G'.fr.defers, _, hu, rfl, G'.size, G'.same, G'.tape, G'.os, G'.output⟩
  match e, he with
  | 0, _ => exact fin
  | 1, _ => exact fin

/-- A part of code, by its way. -/
def gA : List Nat → GCode → GCode
  | 0 :: l, .seq a _ => gA l a
  | 1 :: l, .seq _ b => gA l b
  | 0 :: l, .cond _ _ a _ => gA l a
  | 1 :: l, .cond _ _ _ b => gA l b
  | _ :: l, .block _ a => gA l a
  | _ :: l, .loop a => gA l a
  | _, g => g

/-! The table. -/
def Entry (P : Program) (p : Pos) (x : GTab) : Prop :=
  match x with
  | .none => True
  | .fn g => ∃ f fn nargs tr, p = Pos.of f ∧ P.funcs[f]? = some fn ∧ Comp P fn nargs tr g
  | .prim f => ∀ args h v h', f args h = some (v, h') → Gives P p args h v h'
def TabAll (Q : Pos → GTab → Prop) : Tr GTab → Prop
  | .leaf => True
  | .node l v r => Q .h v ∧ TabAll (fun p => Q (.o p)) l ∧ TabAll (fun p => Q (.i p)) r
theorem tabAll_get : ∀ (T : Tr GTab) (Q : Pos → GTab → Prop), (∀ p, Q p .none) → TabAll Q T → ∀ p, Q p (Tr.get .none p T)
  | .leaf, Q, h0, _, p => by rw [Tr.get_leaf]; exact h0 p
  | .node l v r, Q, h0, h, .h => h.1
  | .node l v r, Q, h0, h, .o p => tabAll_get l _ (fun p => h0 (.o p)) h.2.1 p
  | .node l v r, Q, h0, h, .i p => tabAll_get r _ (fun p => h0 (.i p)) h.2.2 p
theorem tab_ok {T : Tr GTab} (h : TabAll (Entry P) T) : TabOk P T := fun p => tabAll_get T (Entry P) (fun _ => trivial) h p

end
end
end Go.Ev
