/- Ghost code of the Go functions, printed by a program of this session (genfiles.py). -/
import Derived.Test.YtbofkbhobcahiaaGreatEvComp
import Derived.Test.YtbofkbhobcahiaaGreatProg
namespace Go.Ev
open Go.Proofs
set_option maxRecDepth 100000
noncomputable section
/-- (*pianola/pianolaref17.Machine).refused -/
def g116 : GFunc := ⟨4, (.seq (.reg fun _ fr h k =>
  obind2 (nBox (Tr.get .bad q1 fr) h) fun v0 h1 =>
  forceG v0 fun v => Tr.setK .bad v q5 fr fun f5 =>
  forceG (.int .i64 (.ofNat 0)) fun v => Tr.setK .bad v q8 f5 fun f8 =>
  k f8 h1)
 (.seq (.reg fun _ fr h k =>
  obind (pFa 0 (Tr.get .bad q5 fr)) fun v0 =>
  obind (rLd1 v0 h) fun v1 =>
  forceG v1 fun v => Tr.setK .bad v q9 fr fun f9 =>
  k f9 h)
 (.seq (.reg fun call fr h k =>
  obind (rLdN 6 (Tr.get .bad q5 fr) h) fun v0 =>
  call q112 [v0] h fun v1 h2 =>
  forceG v1 fun v => Tr.setK .bad v q10 fr fun f10 =>
  k f10 h2)
 (.seq (.block 0 (.seq (.reg fun _ fr h k =>
  obind (pNilck (Tr.get .bad q0 fr)) fun v0 =>
  obind (pFa 0 v0) fun v1 =>
  obind (pFa 36 v1) fun v2 =>
  obind (rLd1 v2 h) fun v3 =>
  guardC v3 true h (fun k => k (Tr.get .bad q10 fr) h) fun v4 h5 =>
  guardC v3 true h5 (fun k => obind (pEql v4 (.int .i64 (.ofNat 3))) fun v => k v h5) fun v5 h6 =>
  guardC v3 true h6 (fun k => k v5 h6) fun v6 h7 =>
  guardC v6 false h7 (fun k => k (Tr.get .bad q9 fr) h7) fun v7 h8 =>
  guardC v6 false h8 (fun k => obind (pEql v7 (.int .i64 (.ofNat 60))) fun v => k v h8) fun v8 h9 =>
  guardC v3 true h9 (fun k => obind (pPick v6 (.bool true) v8) fun v => k v h9) fun v9 h10 =>
  guardC v3 true h10 (fun k => k v9 h10) fun v10 h11 =>
  guardC v10 false h11 (fun k => k (Tr.get .bad q9 fr) h11) fun v11 h12 =>
  guardC v10 false h12 (fun k => obind (pEql v11 (.int .i64 (.ofNat 61))) fun v => k v h12) fun v12 h13 =>
  guardC v3 true h13 (fun k => obind (pPick v10 (.bool true) v12) fun v => k v h13) fun v13 h14 =>
  obind (pPick v3 v13 (.bool false)) fun v14 =>
  forceG v14 fun v => Tr.setK .bad v q15 fr fun f15 =>
  k f15 h14)
 (.cond 15 q15 (.seq (.reg fun _ fr h k =>
  forceG (.int .i64 (.ofNat 10)) fun v => Tr.setK .bad v q8 fr fun f8 =>
  k f8 h)
 .ret)
 (.seq (.reg fun call fr h k =>
  obind (pGeq (Tr.get .bad q9 fr) (.int .i64 (.ofNat 54))) fun v0 =>
  guardC v0 true h (fun k => k (Tr.get .bad q9 fr) h) fun v1 h2 =>
  guardC v0 true h2 (fun k => obind (pLeq v1 (.int .i64 (.ofNat 61))) fun v => k v h2) fun v2 h3 =>
  obind (pPick v0 v2 (.bool false)) fun v3 =>
  guardC v3 true h3 (fun k => k (Tr.get .bad q0 fr) h3) fun v4 h5 =>
  guardC v3 true h5 (fun k => obind (pNilck v4) fun v => k v h5) fun v5 h6 =>
  guardC v3 true h6 (fun k => obind (pFa 0 v5) fun v => k v h6) fun v6 h7 =>
  guardC v3 true h7 (fun k => call q160 [v6] h7 k) fun v7 h8 =>
  obind (pPick v3 v7 (.bool false)) fun v8 =>
  guardC v8 false h8 (fun k => k (Tr.get .bad q9 fr) h8) fun v9 h10 =>
  guardC v8 false h10 (fun k => obind (pEql v9 (.int .i64 (.ofNat 62))) fun v => k v h10) fun v10 h11 =>
  obind (pPick v8 (.bool true) v10) fun v11 =>
  forceG v11 fun v => Tr.setK .bad v q33 fr fun f33 =>
  k f33 h11)
 (.cond 33 q33 (.seq (.reg fun _ fr h k =>
  forceG (.int .i64 (.ofNat 11)) fun v => Tr.setK .bad v q8 fr fun f8 =>
  k f8 h)
 .ret)
 (.seq (.reg fun _ fr h k =>
  obind (pEql (Tr.get .bad q9 fr) (.int .i64 (.ofNat 11))) fun v0 =>
  forceG v0 fun v => Tr.setK .bad v q50 fr fun f50 =>
  k f50 h)
 (.cond 50 q50 (.seq (.reg fun _ fr h k =>
  forceG (.int .i64 (.ofNat 8)) fun v => Tr.setK .bad v q8 fr fun f8 =>
  k f8 h)
 .ret)
 (.seq (.reg fun _ fr h k =>
  obind (pEql (Tr.get .bad q9 fr) (.int .i64 (.ofNat 12))) fun v0 =>
  forceG v0 fun v => Tr.setK .bad v q53 fr fun f53 =>
  k f53 h)
 (.cond 53 q53 (.seq (.reg fun _ fr h k =>
  forceG (.int .i64 (.ofNat 9)) fun v => Tr.setK .bad v q8 fr fun f8 =>
  k f8 h)
 .ret)
 (.seq (.reg fun _ fr h k =>
  obind (pEql (Tr.get .bad q10 fr) (.int .i64 (.ofNat 6))) fun v0 =>
  guardC v0 true h (fun k => k (Tr.get .bad q9 fr) h) fun v1 h2 =>
  guardC v0 true h2 (fun k => obind (pLss v1 (.int .i64 (.ofNat 54))) fun v => k v h2) fun v2 h3 =>
  guardC v0 true h3 (fun k => k v2 h3) fun v3 h4 =>
  guardC v3 false h4 (fun k => k (Tr.get .bad q9 fr) h4) fun v4 h5 =>
  guardC v3 false h5 (fun k => obind (pGtr v4 (.int .i64 (.ofNat 61))) fun v => k v h5) fun v5 h6 =>
  guardC v0 true h6 (fun k => obind (pPick v3 (.bool true) v5) fun v => k v h6) fun v6 h7 =>
  obind (pPick v0 v6 (.bool false)) fun v7 =>
  forceG v7 fun v => Tr.setK .bad v q56 fr fun f56 =>
  k f56 h7)
 (.cond 56 q56 (.seq (.reg fun _ fr h k =>
  forceG (.int .i64 (.ofNat 10)) fun v => Tr.setK .bad v q8 fr fun f8 =>
  k f8 h)
 .ret)
 (.seq (.reg fun call fr h k =>
  obind (rLdN 6 (Tr.get .bad q5 fr) h) fun v0 =>
  call q161 [v0, (Tr.get .bad q2 fr), (Tr.get .bad q3 fr)] h fun v1 h2 =>
  guardC v1 true h2 (fun k => k (Tr.get .bad q9 fr) h2) fun v2 h3 =>
  guardC v1 true h3 (fun k => obind (pEql v2 (.int .i64 (.ofNat 22))) fun v => k v h3) fun v3 h4 =>
  guardC v1 true h4 (fun k => k v3 h4) fun v4 h5 =>
  guardC v4 false h5 (fun k => k (Tr.get .bad q9 fr) h5) fun v5 h6 =>
  guardC v4 false h6 (fun k => obind (pEql v5 (.int .i64 (.ofNat 24))) fun v => k v h6) fun v6 h7 =>
  guardC v1 true h7 (fun k => obind (pPick v4 (.bool true) v6) fun v => k v h7) fun v7 h8 =>
  guardC v1 true h8 (fun k => k v7 h8) fun v8 h9 =>
  guardC v8 false h9 (fun k => k (Tr.get .bad q9 fr) h9) fun v9 h10 =>
  guardC v8 false h10 (fun k => obind (pEql v9 (.int .i64 (.ofNat 46))) fun v => k v h10) fun v10 h11 =>
  guardC v1 true h11 (fun k => obind (pPick v8 (.bool true) v10) fun v => k v h11) fun v11 h12 =>
  obind (pPick v1 v11 (.bool false)) fun v12 =>
  forceG v12 fun v => Tr.setK .bad v q67 fr fun f67 =>
  k f67 h12)
 (.cond 67 q67 (.seq (.reg fun _ fr h k =>
  forceG (.int .i64 (.ofNat 12)) fun v => Tr.setK .bad v q8 fr fun f8 =>
  k f8 h)
 .ret)
 (.seq (.reg fun call fr h k =>
  obind (rLdN 6 (Tr.get .bad q5 fr) h) fun v0 =>
  call q161 [v0, (Tr.get .bad q2 fr), (Tr.get .bad q3 fr)] h fun v1 h2 =>
  forceG v1 fun v => Tr.setK .bad v q84 fr fun f84 =>
  k f84 h2)
 (.cond 84 q84 (.seq (.reg fun _ fr h k =>
  forceG (.int .i64 (.ofNat 13)) fun v => Tr.setK .bad v q8 fr fun f8 =>
  k f8 h)
 .ret)
 .skip)))))))))))))))
 (.seq (.reg fun _ fr h k =>
  forceG (.int .i64 (.negSucc 0)) fun v => Tr.setK .bad v q8 fr fun f8 =>
  k f8 h)
 .ret))))), resF [.t 8]⟩
theorem g116_ok : Comp Tryz.prog Tryz.f116 4 [5, 8, 9, 10, 15, 33, 50, 53, 56, 67, 84] g116 := ⟨_, [.t 8], rfl, by kernel_rfl, by decide, by kernel_rfl, by kernel_rfl, rfl, rfl⟩
/-- (*pianola/pianolaref17.Machine).enter -/
def g117 : GFunc := ⟨3, (.seq (.reg fun _ fr h k =>
  forceG (.int .i64 (.ofNat 0)) fun v => Tr.setK .bad v q6 fr fun f6 =>
  k f6 h)
 (.seq (.reg fun call fr h k =>
  obind (pNilck (Tr.get .bad q0 fr)) fun v0 =>
  obind (pFa 0 v0) fun v1 =>
  call q162 [v1, (Tr.get .bad q1 fr), (Tr.get .bad q2 fr)] h fun _ h3 =>
  k fr h3)
 (.seq (.reg fun call fr h k =>
  obind (pNilck (Tr.get .bad q0 fr)) fun v0 =>
  obind (pFa 0 v0) fun v1 =>
  call q121 [v1, (.int .i64 (.ofNat 1))] h fun _ h3 =>
  k fr h3)
 (.seq (.reg fun _ fr h k =>
  forceG (Tr.get .bad q1 fr) fun v => Tr.setK .bad v q6 fr fun f6 =>
  k f6 h)
 .ret)))), resF [.t 6]⟩
theorem g117_ok : Comp Tryz.prog Tryz.f117 3 [6] g117 := ⟨_, [.t 6], rfl, by kernel_rfl, by decide, by kernel_rfl, by kernel_rfl, rfl, rfl⟩
/-- (*pianola/pianolaref17.Machine).load -/
def g118 : GFunc := ⟨3, (.seq (.reg fun _ fr h k =>
  obind2 (nBox (Tr.get .bad q1 fr) h) fun v0 h1 =>
  forceG v0 fun v => Tr.setK .bad v q4 fr fun f4 =>
  forceG (.int .i64 (.ofNat 0)) fun v => Tr.setK .bad v q6 f4 fun f6 =>
  k f6 h1)
 (.seq (.reg fun call fr h k =>
  obind (pFa 0 (Tr.get .bad q4 fr)) fun v0 =>
  obind (rLd1 v0 h) fun v1 =>
  call q163 [v1] h fun v2 h3 =>
  forceG v2 fun v => Tr.setK .bad v q7 fr fun f7 =>
  k f7 h3)
 (.seq (.reg fun call fr h k =>
  obind (pFa 5 (Tr.get .bad q4 fr)) fun v0 =>
  obind (rLd1 v0 h) fun v1 =>
  call q165 [v1, (.int .i64 (.ofNat 16))] h fun v2 h3 =>
  obind (pAdd (Tr.get .bad q2 fr) v2) fun v3 =>
  call q164 [(Tr.get .bad q0 fr), v3, (Tr.get .bad q7 fr), (.bool false)] h3 fun v4 h5 =>
  obind (pExt 0 v4) fun v5 =>
  obind (pExt 1 v4) fun v6 =>
  forceG v5 fun v => Tr.setK .bad v q8 fr fun f8 =>
  forceG v6 fun v => Tr.setK .bad v q9 f8 fun f9 =>
  k f9 h5)
 (.seq (.seq (.reg fun _ fr h k =>
  obind (pGeq (Tr.get .bad q9 fr) (.int .i64 (.ofNat 0))) fun v0 =>
  forceG v0 fun v => Tr.setK .bad v q27 fr fun f27 =>
  k f27 h)
 (.cond 27 q27 (.seq (.reg fun _ fr h k =>
  forceG (Tr.get .bad q9 fr) fun v => Tr.setK .bad v q6 fr fun f6 =>
  k f6 h)
 .ret)
 .skip))
 (.seq (.reg fun call fr h k =>
  obind (pNilck (Tr.get .bad q0 fr)) fun v0 =>
  obind (pFa 73 v0) fun v1 =>
  obind (rLd1 v1 h) fun v2 =>
  obind (pNilck (Tr.get .bad q0 fr)) fun v3 =>
  obind (pFa 0 v3) fun v4 =>
  obind (pFa 72 v4) fun v5 =>
  obind (rLd1 v5 h) fun v6 =>
  call q11 [v2, (Tr.get .bad q8 fr), (Tr.get .bad q7 fr), v6] h fun v7 h8 =>
  obind (pExt 0 v7) fun v8 =>
  obind (pExt 1 v7) fun v9 =>
  forceG v8 fun v => Tr.setK .bad v q10 fr fun f10 =>
  forceG v9 fun v => Tr.setK .bad v q11 f10 fun f11 =>
  k f11 h8)
 (.seq (.seq (.reg fun _ fr h k =>
  obind (pNot (Tr.get .bad q11 fr)) fun v0 =>
  forceG v0 fun v => Tr.setK .bad v q45 fr fun f45 =>
  k f45 h)
 (.cond 45 q45 (.seq (.reg fun call fr h k =>
  call q117 [(Tr.get .bad q0 fr), (.int .i64 (.ofNat 7)), (.bool false)] h fun v0 h1 =>
  forceG v0 fun v => Tr.setK .bad v q6 fr fun f6 =>
  k f6 h1)
 .ret)
 .skip))
 (.seq (.seq (.reg fun _ fr h k =>
  obind (pFa 0 (Tr.get .bad q4 fr)) fun v0 =>
  obind (rLd1 v0 h) fun v1 =>
  obind (pEql v1 (.int .i64 (.ofNat 66))) fun v2 =>
  guardC v2 false h (fun k => obind (pFa 0 (Tr.get .bad q4 fr)) fun v => k v h) fun v3 h4 =>
  guardC v2 false h4 (fun k => obind (rLd1 v3 h4) fun v => k v h4) fun v4 h5 =>
  guardC v2 false h5 (fun k => obind (pEql v4 (.int .i64 (.ofNat 67))) fun v => k v h5) fun v5 h6 =>
  obind (pPick v2 (.bool true) v5) fun v6 =>
  forceG v6 fun v => Tr.setK .bad v q55 fr fun f55 =>
  k f55 h6)
 (.cond 55 q55 (.reg fun call fr h k =>
  obind (pMul (.int .i64 (.ofNat 8)) (Tr.get .bad q7 fr)) fun v0 =>
  call q165 [(Tr.get .bad q10 fr), v0] h fun v1 h2 =>
  forceG v1 fun v => Tr.setK .bad v q10 fr fun f10 =>
  k f10 h2)
 .skip))
 (.seq (.seq (.reg fun _ fr h k =>
  obind (pFa 0 (Tr.get .bad q4 fr)) fun v0 =>
  obind (rLd1 v0 h) fun v1 =>
  obind (pEql v1 (.int .i64 (.ofNat 74))) fun v2 =>
  forceG v2 fun v => Tr.setK .bad v q62 fr fun f62 =>
  k f62 h)
 (.cond 62 q62 (.reg fun _ fr h k =>
  obind (pNilck (Tr.get .bad q0 fr)) fun v0 =>
  obind (pFa 0 v0) fun v1 =>
  obind (pFa 37 v1) fun v2 =>
  obind (wSt1 v2 (.bool true) h) fun h4 =>
  obind (pNilck (Tr.get .bad q0 fr)) fun v4 =>
  obind (pFa 0 v4) fun v5 =>
  obind (pFa 38 v5) fun v6 =>
  obind (wSt1 v6 (Tr.get .bad q8 fr) h4) fun h8 =>
  k fr h8)
 .skip))
 (.seq (.reg fun call fr h k =>
  obind (pFa 2 (Tr.get .bad q4 fr)) fun v0 =>
  obind (rLd1 v0 h) fun v1 =>
  call q166 [(Tr.get .bad q0 fr), v1, (Tr.get .bad q10 fr)] h fun _ h3 =>
  k fr h3)
 (.seq (.reg fun _ fr h k =>
  forceG (.int .i64 (.negSucc 0)) fun v => Tr.setK .bad v q6 fr fun f6 =>
  k f6 h)
 .ret)))))))))), resF [.t 6]⟩
theorem g118_ok : Comp Tryz.prog Tryz.f118 3 [4, 6, 7, 8, 9, 10, 11, 27, 45, 55, 62] g118 := ⟨_, [.t 6], rfl, by kernel_rfl, by decide, by kernel_rfl, by kernel_rfl, rfl, rfl⟩
/-- (*pianola/pianolaref17.Machine).store -/
def g119 : GFunc := ⟨4, (.seq (.reg fun _ fr h k =>
  obind2 (nBox (Tr.get .bad q1 fr) h) fun v0 h1 =>
  forceG v0 fun v => Tr.setK .bad v q5 fr fun f5 =>
  forceG (.int .i64 (.ofNat 0)) fun v => Tr.setK .bad v q8 f5 fun f8 =>
  k f8 h1)
 (.seq (.reg fun call fr h k =>
  obind (pFa 0 (Tr.get .bad q5 fr)) fun v0 =>
  obind (rLd1 v0 h) fun v1 =>
  call q163 [v1] h fun v2 h3 =>
  forceG v2 fun v => Tr.setK .bad v q9 fr fun f9 =>
  k f9 h3)
 (.seq (.reg fun call fr h k =>
  obind (pFa 5 (Tr.get .bad q5 fr)) fun v0 =>
  obind (rLd1 v0 h) fun v1 =>
  call q165 [v1, (.int .i64 (.ofNat 16))] h fun v2 h3 =>
  obind (pAdd (Tr.get .bad q2 fr) v2) fun v3 =>
  call q164 [(Tr.get .bad q0 fr), v3, (Tr.get .bad q9 fr), (.bool true)] h3 fun v4 h5 =>
  obind (pExt 0 v4) fun v5 =>
  obind (pExt 1 v4) fun v6 =>
  forceG v5 fun v => Tr.setK .bad v q10 fr fun f10 =>
  forceG v6 fun v => Tr.setK .bad v q11 f10 fun f11 =>
  k f11 h5)
 (.seq (.seq (.reg fun _ fr h k =>
  obind (pGeq (Tr.get .bad q11 fr) (.int .i64 (.ofNat 0))) fun v0 =>
  forceG v0 fun v => Tr.setK .bad v q27 fr fun f27 =>
  k f27 h)
 (.cond 27 q27 (.seq (.reg fun _ fr h k =>
  forceG (Tr.get .bad q11 fr) fun v => Tr.setK .bad v q8 fr fun f8 =>
  k f8 h)
 .ret)
 .skip))
 (.seq (.seq (.reg fun _ fr h k =>
  obind (pFa 0 (Tr.get .bad q5 fr)) fun v0 =>
  obind (rLd1 v0 h) fun v1 =>
  obind (pEql v1 (.int .i64 (.ofNat 75))) fun v2 =>
  guardC v2 true h (fun k => k (Tr.get .bad q0 fr) h) fun v3 h4 =>
  guardC v2 true h4 (fun k => obind (pNilck v3) fun v => k v h4) fun v4 h5 =>
  guardC v2 true h5 (fun k => obind (pFa 0 v4) fun v => k v h5) fun v5 h6 =>
  guardC v2 true h6 (fun k => obind (pFa 37 v5) fun v => k v h6) fun v6 h7 =>
  guardC v2 true h7 (fun k => obind (rLd1 v6 h7) fun v => k v h7) fun v7 h8 =>
  guardC v2 true h8 (fun k => k v7 h8) fun v8 h9 =>
  guardC v8 true h9 (fun k => k (Tr.get .bad q0 fr) h9) fun v9 h10 =>
  guardC v8 true h10 (fun k => obind (pNilck v9) fun v => k v h10) fun v10 h11 =>
  guardC v8 true h11 (fun k => obind (pFa 0 v10) fun v => k v h11) fun v11 h12 =>
  guardC v8 true h12 (fun k => obind (pFa 38 v11) fun v => k v h12) fun v12 h13 =>
  guardC v8 true h13 (fun k => obind (rLd1 v12 h13) fun v => k v h13) fun v13 h14 =>
  guardC v8 true h14 (fun k => k (Tr.get .bad q10 fr) h14) fun v14 h15 =>
  guardC v8 true h15 (fun k => obind (pEql v13 v14) fun v => k v h15) fun v15 h16 =>
  guardC v2 true h16 (fun k => obind (pPick v8 v15 (.bool false)) fun v => k v h16) fun v16 h17 =>
  guardC v2 true h17 (fun k => obind (pNot v16) fun v => k v h17) fun v17 h18 =>
  obind (pPick v2 v17 (.bool false)) fun v18 =>
  forceG v18 fun v => Tr.setK .bad v q48 fr fun f48 =>
  k f48 h18)
 (.cond 48 q48 (.seq (.reg fun _ fr h k =>
  obind (pNilck (Tr.get .bad q0 fr)) fun v0 =>
  obind (pFa 0 v0) fun v1 =>
  obind (pFa 37 v1) fun v2 =>
  obind (wSt1 v2 (.bool false) h) fun h4 =>
  k fr h4)
 (.seq (.reg fun call fr h k =>
  obind (pFa 2 (Tr.get .bad q5 fr)) fun v0 =>
  obind (rLd1 v0 h) fun v1 =>
  call q166 [(Tr.get .bad q0 fr), v1, (.int .u32 (.ofNat 0))] h fun _ h3 =>
  k fr h3)
 (.seq (.reg fun _ fr h k =>
  forceG (.int .i64 (.negSucc 0)) fun v => Tr.setK .bad v q8 fr fun f8 =>
  k f8 h)
 .ret)))
 .skip))
 (.seq (.seq (.reg fun call fr h k =>
  obind (pNilck (Tr.get .bad q0 fr)) fun v0 =>
  obind (pFa 73 v0) fun v1 =>
  obind (rLd1 v1 h) fun v2 =>
  obind (pNilck (Tr.get .bad q0 fr)) fun v3 =>
  obind (pFa 0 v3) fun v4 =>
  obind (pFa 72 v4) fun v5 =>
  obind (rLd1 v5 h) fun v6 =>
  call q13 [v2, (Tr.get .bad q10 fr), (Tr.get .bad q9 fr), (Tr.get .bad q3 fr), v6] h fun v7 h8 =>
  obind (pNot v7) fun v8 =>
  forceG v8 fun v => Tr.setK .bad v q70 fr fun f70 =>
  k f70 h8)
 (.cond 70 q70 (.seq (.reg fun call fr h k =>
  call q117 [(Tr.get .bad q0 fr), (.int .i64 (.ofNat 7)), (.bool false)] h fun v0 h1 =>
  forceG v0 fun v => Tr.setK .bad v q8 fr fun f8 =>
  k f8 h1)
 .ret)
 .skip))
 (.seq (.seq (.reg fun _ fr h k =>
  obind (pFa 0 (Tr.get .bad q5 fr)) fun v0 =>
  obind (rLd1 v0 h) fun v1 =>
  obind (pEql v1 (.int .i64 (.ofNat 75))) fun v2 =>
  forceG v2 fun v => Tr.setK .bad v q75 fr fun f75 =>
  k f75 h)
 (.cond 75 q75 (.seq (.reg fun _ fr h k =>
  obind (pNilck (Tr.get .bad q0 fr)) fun v0 =>
  obind (pFa 0 v0) fun v1 =>
  obind (pFa 37 v1) fun v2 =>
  obind (wSt1 v2 (.bool false) h) fun h4 =>
  k fr h4)
 (.reg fun call fr h k =>
  obind (pFa 2 (Tr.get .bad q5 fr)) fun v0 =>
  obind (rLd1 v0 h) fun v1 =>
  call q166 [(Tr.get .bad q0 fr), v1, (.int .u32 (.ofNat 1))] h fun _ h3 =>
  k fr h3))
 (.seq (.reg fun _ fr h k =>
  obind (pConv .u64 (Tr.get .bad q10 fr)) fun v0 =>
  obind (pNilck (Tr.get .bad q0 fr)) fun v1 =>
  obind (pFa 0 v1) fun v2 =>
  obind (pFa 38 v2) fun v3 =>
  obind (rLd1 v3 h) fun v4 =>
  obind (pConv .u64 v4) fun v5 =>
  obind (pAdd v5 (.int .u64 (.ofNat 4))) fun v6 =>
  obind (pLss v0 v6) fun v7 =>
  guardC v7 true h (fun k => k (Tr.get .bad q10 fr) h) fun v8 h9 =>
  guardC v7 true h9 (fun k => obind (pConv .u64 v8) fun v => k v h9) fun v9 h10 =>
  guardC v7 true h10 (fun k => k (Tr.get .bad q9 fr) h10) fun v10 h11 =>
  guardC v7 true h11 (fun k => obind (pConv .u64 v10) fun v => k v h11) fun v11 h12 =>
  guardC v7 true h12 (fun k => obind (pAdd v9 v11) fun v => k v h12) fun v12 h13 =>
  guardC v7 true h13 (fun k => k (Tr.get .bad q0 fr) h13) fun v13 h14 =>
  guardC v7 true h14 (fun k => obind (pNilck v13) fun v => k v h14) fun v14 h15 =>
  guardC v7 true h15 (fun k => obind (pFa 0 v14) fun v => k v h15) fun v15 h16 =>
  guardC v7 true h16 (fun k => obind (pFa 38 v15) fun v => k v h16) fun v16 h17 =>
  guardC v7 true h17 (fun k => obind (rLd1 v16 h17) fun v => k v h17) fun v17 h18 =>
  guardC v7 true h18 (fun k => obind (pConv .u64 v17) fun v => k v h18) fun v18 h19 =>
  guardC v7 true h19 (fun k => obind (pGtr v12 v18) fun v => k v h19) fun v19 h20 =>
  obind (pPick v7 v19 (.bool false)) fun v20 =>
  forceG v20 fun v => Tr.setK .bad v q107 fr fun f107 =>
  k f107 h20)
 (.cond 107 q107 (.reg fun _ fr h k =>
  obind (pNilck (Tr.get .bad q0 fr)) fun v0 =>
  obind (pFa 0 v0) fun v1 =>
  obind (pFa 37 v1) fun v2 =>
  obind (wSt1 v2 (.bool false) h) fun h4 =>
  k fr h4)
 .skip))))
 (.seq (.reg fun _ fr h k =>
  forceG (.int .i64 (.negSucc 0)) fun v => Tr.setK .bad v q8 fr fun f8 =>
  k f8 h)
 .ret)))))))), resF [.t 8]⟩
theorem g119_ok : Comp Tryz.prog Tryz.f119 4 [5, 8, 9, 10, 11, 27, 48, 70, 75, 107] g119 := ⟨_, [.t 8], rfl, by kernel_rfl, by decide, by kernel_rfl, by kernel_rfl, rfl, rfl⟩
/-- (*pianola/pianolaref17.Machine).system -/
def g120 : GFunc := ⟨3, (.seq (.reg fun _ fr h k =>
  obind2 (nBox (Tr.get .bad q1 fr) h) fun v0 h1 =>
  forceG v0 fun v => Tr.setK .bad v q4 fr fun f4 =>
  k f4 h1)
 (.seq (.reg fun _ fr h k =>
  obind (pFa 0 (Tr.get .bad q4 fr)) fun v0 =>
  obind (rLd1 v0 h) fun v1 =>
  forceG v1 fun v => Tr.setK .bad v q7 fr fun f7 =>
  k f7 h)
 (.block 0 (.seq (.reg fun _ fr h k =>
  obind (pEql (Tr.get .bad q7 fr) (.int .i64 (.ofNat 54))) fun v0 =>
  forceG v0 fun v => Tr.setK .bad v q8 fr fun f8 =>
  k f8 h)
 (.cond 8 q8 (.reg fun call fr h k =>
  obind (pFa 2 (Tr.get .bad q4 fr)) fun v0 =>
  obind (rLd1 v0 h) fun v1 =>
  obind (pNilck (Tr.get .bad q0 fr)) fun v2 =>
  obind (pFa 0 v2) fun v3 =>
  obind (pFa 3 (Tr.get .bad q4 fr)) fun v4 =>
  obind (rLd1 v4 h) fun v5 =>
  call q167 [v3, v5] h fun v6 h7 =>
  call q166 [(Tr.get .bad q0 fr), v1, v6] h7 fun _ h8 =>
  chk v1 (rLd1 v0 h7) <|
  k fr h8)
 (.seq (.reg fun _ fr h k =>
  obind (pEql (Tr.get .bad q7 fr) (.int .i64 (.ofNat 55))) fun v0 =>
  forceG v0 fun v => Tr.setK .bad v q20 fr fun f20 =>
  k f20 h)
 (.cond 20 q20 (.reg fun call fr h k =>
  obind (pNilck (Tr.get .bad q0 fr)) fun v0 =>
  obind (pFa 0 v0) fun v1 =>
  obind (pFa 3 (Tr.get .bad q4 fr)) fun v2 =>
  obind (rLd1 v2 h) fun v3 =>
  call q168 [v1, v3, (Tr.get .bad q2 fr)] h fun _ h5 =>
  k fr h5)
 (.seq (.reg fun _ fr h k =>
  obind (pEql (Tr.get .bad q7 fr) (.int .i64 (.ofNat 56))) fun v0 =>
  forceG v0 fun v => Tr.setK .bad v q29 fr fun f29 =>
  k f29 h)
 (.cond 29 q29 (.reg fun call fr h k =>
  obind (pNilck (Tr.get .bad q0 fr)) fun v0 =>
  obind (pFa 0 v0) fun v1 =>
  call q169 [v1] h fun _ h3 =>
  k fr h3)
 (.seq (.seq (.reg fun _ fr h k =>
  obind (pEql (Tr.get .bad q7 fr) (.int .i64 (.ofNat 57))) fun v0 =>
  forceG v0 fun v => Tr.setK .bad v q35 fr fun f35 =>
  k f35 h)
 (.cond 35 q35 .skip
 (.reg fun _ fr h k =>
  obind (pEql (Tr.get .bad q7 fr) (.int .i64 (.ofNat 58))) fun v0 =>
  forceG v0 fun v => Tr.setK .bad v q35 fr fun f35 =>
  k f35 h)))
 (.cond 35 q35 (.reg fun call fr h k =>
  obind (pNilck (Tr.get .bad q0 fr)) fun v0 =>
  obind (pFa 0 v0) fun v1 =>
  obind (pFa 0 (Tr.get .bad q4 fr)) fun v2 =>
  obind (rLd1 v2 h) fun v3 =>
  obind (pEql v3 (.int .i64 (.ofNat 58))) fun v4 =>
  call q170 [v1, v4] h fun _ h6 =>
  k fr h6)
 (.seq (.reg fun _ fr h k =>
  obind (pEql (Tr.get .bad q7 fr) (.int .i64 (.ofNat 59))) fun v0 =>
  forceG v0 fun v => Tr.setK .bad v q45 fr fun f45 =>
  k f45 h)
 (.cond 45 q45 (.reg fun call fr h k =>
  obind (pNilck (Tr.get .bad q0 fr)) fun v0 =>
  obind (pFa 0 v0) fun v1 =>
  call q171 [v1] h fun _ h3 =>
  k fr h3)
 (.seq (.reg fun _ fr h k =>
  obind (pEql (Tr.get .bad q7 fr) (.int .i64 (.ofNat 60))) fun v0 =>
  forceG v0 fun v => Tr.setK .bad v q51 fr fun f51 =>
  k f51 h)
 (.cond 51 q51 (.reg fun call fr h k =>
  obind (pNilck (Tr.get .bad q0 fr)) fun v0 =>
  obind (pFa 0 v0) fun v1 =>
  call q172 [v1] h fun _ h3 =>
  k fr h3)
 (.seq (.reg fun _ fr h k =>
  obind (pEql (Tr.get .bad q7 fr) (.int .i64 (.ofNat 61))) fun v0 =>
  forceG v0 fun v => Tr.setK .bad v q57 fr fun f57 =>
  k f57 h)
 (.cond 57 q57 (.reg fun _ fr h k =>
  obind (pNilck (Tr.get .bad q0 fr)) fun v0 =>
  obind (pFa 0 v0) fun v1 =>
  obind (pFa 71 v1) fun v2 =>
  obind (wSt1 v2 (.bool true) h) fun h4 =>
  k fr h4)
 .skip))))))))))))))))), resF []⟩
theorem g120_ok : Comp Tryz.prog Tryz.f120 3 [4, 7, 8, 20, 29, 35, 45, 51, 57] g120 := ⟨_, [], rfl, by kernel_rfl, by decide, by kernel_rfl, by kernel_rfl, rfl, rfl⟩
/-- pianola/pianolaref6.Go -/
def g121 : GFunc := ⟨2, (.seq (.reg fun _ fr h k =>
  forceG (.bool false) fun v => Tr.setK .bad v q4 fr fun f4 =>
  k f4 h)
 (.seq (.seq (.reg fun _ fr h k =>
  obind (pLss (Tr.get .bad q1 fr) (.int .i64 (.ofNat 1))) fun v0 =>
  forceG v0 fun v => Tr.setK .bad v q7 fr fun f7 =>
  k f7 h)
 (.cond 7 q7 (.seq (.reg fun _ fr h k =>
  forceG (.bool false) fun v => Tr.setK .bad v q4 fr fun f4 =>
  k f4 h)
 .ret)
 .skip))
 (.seq (.reg fun call fr h k =>
  call q173 [(Tr.get .bad q0 fr)] h fun v0 h1 =>
  obind (pLeq v0 (Tr.get .bad q1 fr)) fun v1 =>
  forceG v1 fun v => Tr.setK .bad v q5 fr fun f5 =>
  k f5 h1)
 (.seq (.reg fun _ fr h k =>
  obind (pNilck (Tr.get .bad q0 fr)) fun v0 =>
  obind (pFa 72 v0) fun v1 =>
  obind (rLd1 v1 h) fun v2 =>
  obind (pAdd v2 (Tr.get .bad q1 fr)) fun v3 =>
  obind (pNilck (Tr.get .bad q0 fr)) fun v4 =>
  obind (pFa 72 v4) fun v5 =>
  obind (wSt1 v5 v3 h) fun h7 =>
  k fr h7)
 (.seq (.reg fun _ fr h k =>
  obind (pNilck (Tr.get .bad q0 fr)) fun v0 =>
  obind (pFa 39 v0) fun v1 =>
  obind (pIdxA 16 1 v1 (.int .i64 (.ofNat 9))) fun v2 =>
  obind (rLd1 v2 h) fun v3 =>
  obind (pConv .u32 (Tr.get .bad q1 fr)) fun v4 =>
  obind (pAdd v3 v4) fun v5 =>
  obind (pNilck (Tr.get .bad q0 fr)) fun v6 =>
  obind (pFa 39 v6) fun v7 =>
  obind (pIdxA 16 1 v7 (.int .i64 (.ofNat 9))) fun v8 =>
  obind (wSt1 v8 v5 h) fun h10 =>
  k fr h10)
 (.seq (.seq (.reg fun _ fr h k =>
  forceG (Tr.get .bad q5 fr) fun v => Tr.setK .bad v q33 fr fun f33 =>
  k f33 h)
 (.cond 33 q33 (.reg fun _ fr h k =>
  obind (pNilck (Tr.get .bad q0 fr)) fun v0 =>
  obind (pFa 39 v0) fun v1 =>
  obind (pIdxA 16 1 v1 (.int .i64 (.ofNat 13))) fun v2 =>
  obind (rLd1 v2 h) fun v3 =>
  obind (pOr v3 (.int .u32 (.ofNat 32768))) fun v4 =>
  obind (pNilck (Tr.get .bad q0 fr)) fun v5 =>
  obind (pFa 39 v5) fun v6 =>
  obind (pIdxA 16 1 v6 (.int .i64 (.ofNat 13))) fun v7 =>
  obind (wSt1 v7 v4 h) fun h9 =>
  k fr h9)
 .skip))
 (.seq (.reg fun _ fr h k =>
  forceG (Tr.get .bad q5 fr) fun v => Tr.setK .bad v q4 fr fun f4 =>
  k f4 h)
 .ret))))))), resF [.t 4]⟩
theorem g121_ok : Comp Tryz.prog Tryz.f121 2 [4, 5, 7, 33] g121 := ⟨_, [.t 4], rfl, by kernel_rfl, by decide, by kernel_rfl, by kernel_rfl, rfl, rfl⟩
/-- (*pianola/pianolaref17.Machine).plain -/
def g122 : GFunc := ⟨4, (.seq (.reg fun _ fr h k =>
  obind2 (nBox (Tr.get .bad q1 fr) h) fun v0 h1 =>
  forceG v0 fun v => Tr.setK .bad v q5 fr fun f5 =>
  k f5 h1)
 (.seq (.seq (.reg fun call fr h k =>
  obind (rLdN 6 (Tr.get .bad q5 fr) h) fun v0 =>
  call q174 [v0, (Tr.get .bad q2 fr), (Tr.get .bad q3 fr)] h fun v1 h2 =>
  obind (pExt 0 v1) fun v2 =>
  obind (pExt 1 v1) fun v3 =>
  forceG v2 fun v => Tr.setK .bad v q8 fr fun f8 =>
  forceG v3 fun v => Tr.setK .bad v q9 f8 fun f9 =>
  k f9 h2)
 (.seq (.reg fun _ fr h k =>
  forceG (Tr.get .bad q9 fr) fun v => Tr.setK .bad v q17 fr fun f17 =>
  k f17 h)
 (.cond 17 q17 (.reg fun call fr h k =>
  obind (rLdN 6 (Tr.get .bad q5 fr) h) fun v0 =>
  call q175 [v0] h fun v1 h2 =>
  call q166 [(Tr.get .bad q0 fr), v1, (Tr.get .bad q8 fr)] h2 fun _ h3 =>
  k fr h3)
 .skip)))
 (.seq (.reg fun call fr h k =>
  obind (rLdN 6 (Tr.get .bad q5 fr) h) fun v0 =>
  obind (pNilck (Tr.get .bad q0 fr)) fun v1 =>
  obind (pFa 0 v1) fun v2 =>
  obind (pFa 32 v2) fun v3 =>
  obind (rLd1 v3 h) fun v4 =>
  obind (pNilck (Tr.get .bad q0 fr)) fun v5 =>
  obind (pFa 0 v5) fun v6 =>
  obind (pFa 33 v6) fun v7 =>
  obind (rLd1 v7 h) fun v8 =>
  call q176 [v0, (Tr.get .bad q2 fr), (Tr.get .bad q3 fr), v4, v8] h fun v9 h10 =>
  obind (pExt 0 v9) fun v10 =>
  obind (pExt 1 v9) fun v11 =>
  obind (pExt 2 v9) fun _ =>
  obind (pNilck (Tr.get .bad q0 fr)) fun v13 =>
  obind (pFa 0 v13) fun v14 =>
  obind (pFa 32 v14) fun v15 =>
  obind (wSt1 v15 v10 h10) fun h17 =>
  obind (pNilck (Tr.get .bad q0 fr)) fun v17 =>
  obind (pFa 0 v17) fun v18 =>
  obind (pFa 33 v18) fun v19 =>
  obind (wSt1 v19 v11 h17) fun h21 =>
  k fr h21)
 (.seq (.reg fun _ fr h k =>
  obind (pFa 0 (Tr.get .bad q5 fr)) fun v0 =>
  obind (rLd1 v0 h) fun v1 =>
  forceG v1 fun v => Tr.setK .bad v q50 fr fun f50 =>
  k f50 h)
 (.block 0 (.seq (.seq (.reg fun _ fr h k =>
  obind (pEql (Tr.get .bad q50 fr) (.int .i64 (.ofNat 9))) fun v0 =>
  forceG v0 fun v => Tr.setK .bad v q51 fr fun f51 =>
  k f51 h)
 (.cond 51 q51 .skip
 (.reg fun _ fr h k =>
  obind (pEql (Tr.get .bad q50 fr) (.int .i64 (.ofNat 10))) fun v0 =>
  forceG v0 fun v => Tr.setK .bad v q51 fr fun f51 =>
  k f51 h)))
 (.cond 51 q51 (.seq (.reg fun _ fr h k =>
  obind (pEql (Tr.get .bad q3 fr) (.int .u32 (.ofNat 0))) fun v0 =>
  obind (pFa 0 (Tr.get .bad q5 fr)) fun v1 =>
  obind (rLd1 v1 h) fun v2 =>
  obind (pEql v2 (.int .i64 (.ofNat 9))) fun v3 =>
  obind (pEqlB v0 v3) fun v4 =>
  forceG v4 fun v => Tr.setK .bad v q59 fr fun f59 =>
  k f59 h)
 (.cond 59 q59 (.reg fun call fr h k =>
  obind (pFa 3 (Tr.get .bad q5 fr)) fun v0 =>
  obind (rLd1 v0 h) fun v1 =>
  call q166 [(Tr.get .bad q0 fr), v1, (Tr.get .bad q2 fr)] h fun _ h3 =>
  k fr h3)
 .skip))
 (.seq (.reg fun _ fr h k =>
  obind (pEql (Tr.get .bad q50 fr) (.int .i64 (.ofNat 14))) fun v0 =>
  forceG v0 fun v => Tr.setK .bad v q65 fr fun f65 =>
  k f65 h)
 (.cond 65 q65 (.reg fun call fr h k =>
  obind (pFa 3 (Tr.get .bad q5 fr)) fun v0 =>
  obind (rLd1 v0 h) fun v1 =>
  obind (pNilck (Tr.get .bad q0 fr)) fun v2 =>
  obind (pFa 0 v2) fun v3 =>
  obind (pFa 32 v3) fun v4 =>
  obind (rLd1 v4 h) fun v5 =>
  call q166 [(Tr.get .bad q0 fr), v1, v5] h fun _ h7 =>
  k fr h7)
 (.seq (.reg fun _ fr h k =>
  obind (pEql (Tr.get .bad q50 fr) (.int .i64 (.ofNat 16))) fun v0 =>
  forceG v0 fun v => Tr.setK .bad v q76 fr fun f76 =>
  k f76 h)
 (.cond 76 q76 (.reg fun call fr h k =>
  obind (pFa 3 (Tr.get .bad q5 fr)) fun v0 =>
  obind (rLd1 v0 h) fun v1 =>
  obind (pNilck (Tr.get .bad q0 fr)) fun v2 =>
  obind (pFa 0 v2) fun v3 =>
  obind (pFa 33 v3) fun v4 =>
  obind (rLd1 v4 h) fun v5 =>
  call q166 [(Tr.get .bad q0 fr), v1, v5] h fun _ h7 =>
  k fr h7)
 .skip))))))))))), resF []⟩
theorem g122_ok : Comp Tryz.prog Tryz.f122 4 [5, 8, 9, 17, 50, 51, 59, 65, 76] g122 := ⟨_, [], rfl, by kernel_rfl, by decide, by kernel_rfl, by kernel_rfl, rfl, rfl⟩
/-- (*pianola/pianolaref17.Machine).on -/
def g123 : GFunc := ⟨4, (.seq (.reg fun _ fr h k =>
  obind2 (nBox (Tr.get .bad q1 fr) h) fun v0 h1 =>
  forceG v0 fun v => Tr.setK .bad v q5 fr fun f5 =>
  k f5 h1)
 (.seq (.reg fun _ fr h k =>
  obind (pNilck (Tr.get .bad q0 fr)) fun v0 =>
  obind (pFa 0 v0) fun v1 =>
  obind (pFa 34 v1) fun v2 =>
  obind (rLd1 v2 h) fun v3 =>
  forceG v3 fun v => Tr.setK .bad v q8 fr fun f8 =>
  k f8 h)
 (.seq (.reg fun _ fr h k =>
  obind (pNilck (Tr.get .bad q0 fr)) fun v0 =>
  obind (pFa 0 v0) fun v1 =>
  obind (pFa 35 v1) fun v2 =>
  obind (rLd1 v2 h) fun v3 =>
  obind (pNilck (Tr.get .bad q0 fr)) fun v4 =>
  obind (pFa 0 v4) fun v5 =>
  obind (pFa 34 v5) fun v6 =>
  obind (wSt1 v6 v3 h) fun h8 =>
  k fr h8)
 (.seq (.reg fun _ fr h k =>
  obind (pNilck (Tr.get .bad q0 fr)) fun v0 =>
  obind (pFa 0 v0) fun v1 =>
  obind (pFa 34 v1) fun v2 =>
  obind (rLd1 v2 h) fun v3 =>
  obind (pAdd v3 (.int .u32 (.ofNat 4))) fun v4 =>
  obind (pNilck (Tr.get .bad q0 fr)) fun v5 =>
  obind (pFa 0 v5) fun v6 =>
  obind (pFa 35 v6) fun v7 =>
  obind (wSt1 v7 v4 h) fun h9 =>
  k fr h9)
 (.seq (.reg fun call fr h k =>
  obind (rLdN 6 (Tr.get .bad q5 fr) h) fun v0 =>
  call q112 [v0] h fun v1 h2 =>
  obind (pEql v1 (.int .i64 (.ofNat 3))) fun v2 =>
  obind (pNilck (Tr.get .bad q0 fr)) fun v3 =>
  obind (pFa 0 v3) fun v4 =>
  obind (pFa 36 v4) fun v5 =>
  obind (wSt1 v5 v2 h2) fun h7 =>
  k fr h7)
 (.seq (.seq (.reg fun call fr h k =>
  obind (rLdN 6 (Tr.get .bad q5 fr) h) fun v0 =>
  call q177 [v0, (Tr.get .bad q2 fr), (Tr.get .bad q3 fr)] h fun v1 h2 =>
  forceG v1 fun v => Tr.setK .bad v q45 fr fun f45 =>
  k f45 h2)
 (.cond 45 q45 (.reg fun call fr h k =>
  obind (rLdN 6 (Tr.get .bad q5 fr) h) fun v0 =>
  call q178 [v0, (Tr.get .bad q8 fr), (Tr.get .bad q2 fr)] h fun v1 h2 =>
  obind (pNilck (Tr.get .bad q0 fr)) fun v2 =>
  obind (pFa 0 v2) fun v3 =>
  obind (pFa 35 v3) fun v4 =>
  obind (wSt1 v4 v1 h2) fun h6 =>
  k fr h6)
 .skip))
 (.seq (.reg fun call fr h k =>
  obind (rLdN 6 (Tr.get .bad q5 fr) h) fun v0 =>
  call q179 [v0] h fun v1 h2 =>
  obind (pExt 0 v1) fun v2 =>
  obind (pExt 1 v1) fun v3 =>
  forceG v2 fun v => Tr.setK .bad v q9 fr fun f9 =>
  forceG v3 fun v => Tr.setK .bad v q10 f9 fun f10 =>
  k f10 h2)
 (.seq (.reg fun _ fr h k =>
  forceG (Tr.get .bad q10 fr) fun v => Tr.setK .bad v q59 fr fun f59 =>
  k f59 h)
 (.cond 59 q59 (.reg fun call fr h k =>
  obind (pAdd (Tr.get .bad q8 fr) (.int .u32 (.ofNat 8))) fun v0 =>
  call q166 [(Tr.get .bad q0 fr), (Tr.get .bad q9 fr), v0] h fun _ h2 =>
  k fr h2)
 .skip))))))))), resF []⟩
theorem g123_ok : Comp Tryz.prog Tryz.f123 4 [5, 8, 9, 10, 45, 59] g123 := ⟨_, [], rfl, by kernel_rfl, by decide, by kernel_rfl, by kernel_rfl, rfl, rfl⟩
/-- pianola/decode.with -/
def g128 : GFunc := ⟨2, (.seq (.reg fun _ fr h k =>
  obind2 (nAlloc [.int .i64 (.ofNat 0), .int .i64 (.ofNat 0), .int .i64 (.ofNat 0), .int .i64 (.ofNat 0), .int .i64 (.ofNat 0), .int .u32 (.ofNat 0)] h) fun v0 h1 =>
  forceG v0 fun v => Tr.setK .bad v q4 fr fun f4 =>
  k f4 h1)
 (.seq (.reg fun _ fr h k =>
  obind (pBuild [.int .i64 (.ofNat 0), .int .i64 (.ofNat 0), .int .i64 (.ofNat 0), .int .i64 (.ofNat 0), .int .i64 (.ofNat 0), .int .u32 (.ofNat 0)] [(0, 1, (Tr.get .bad q0 fr))]) fun v0 =>
  obind2 (nAlloc [.int .i64 (.ofNat 0), .int .i64 (.ofNat 0), .int .i64 (.ofNat 0), .int .i64 (.ofNat 0), .int .i64 (.ofNat 0), .int .u32 (.ofNat 0)] h) fun v1 h2 =>
  obind (wStN 6 v1 v0 h2) fun h3 =>
  forceG v1 fun v => Tr.setK .bad v q5 fr fun f5 =>
  k f5 h3)
 (.seq (.reg fun call fr h k =>
  call q184 [(Tr.get .bad q0 fr)] h fun v0 h1 =>
  forceG v0 fun v => Tr.setK .bad v q6 fr fun f6 =>
  k f6 h1)
 (.seq (.seq (.reg fun _ fr h k =>
  obind (pAnd (Tr.get .bad q6 fr) (.int .i64 (.ofNat 1))) fun v0 =>
  obind (pNeq v0 (.int .i64 (.ofNat 0))) fun v1 =>
  forceG v1 fun v => Tr.setK .bad v q13 fr fun f13 =>
  k f13 h)
 (.cond 13 q13 (.reg fun _ fr h k =>
  obind (pShr (Tr.get .bad q1 fr) (.int .u64 (.ofNat 21))) fun v0 =>
  obind (pAnd v0 (.int .u32 (.ofNat 31))) fun v1 =>
  obind (pConv .i64 v1) fun v2 =>
  obind (pFa 1 (Tr.get .bad q5 fr)) fun v3 =>
  obind (wSt1 v3 v2 h) fun h5 =>
  k fr h5)
 .skip))
 (.seq (.seq (.reg fun _ fr h k =>
  obind (pAnd (Tr.get .bad q6 fr) (.int .i64 (.ofNat 2))) fun v0 =>
  obind (pNeq v0 (.int .i64 (.ofNat 0))) fun v1 =>
  forceG v1 fun v => Tr.setK .bad v q21 fr fun f21 =>
  k f21 h)
 (.cond 21 q21 (.reg fun _ fr h k =>
  obind (pShr (Tr.get .bad q1 fr) (.int .u64 (.ofNat 16))) fun v0 =>
  obind (pAnd v0 (.int .u32 (.ofNat 31))) fun v1 =>
  obind (pConv .i64 v1) fun v2 =>
  obind (pFa 2 (Tr.get .bad q5 fr)) fun v3 =>
  obind (wSt1 v3 v2 h) fun h5 =>
  k fr h5)
 .skip))
 (.seq (.seq (.reg fun _ fr h k =>
  obind (pAnd (Tr.get .bad q6 fr) (.int .i64 (.ofNat 4))) fun v0 =>
  obind (pNeq v0 (.int .i64 (.ofNat 0))) fun v1 =>
  forceG v1 fun v => Tr.setK .bad v q29 fr fun f29 =>
  k f29 h)
 (.cond 29 q29 (.reg fun _ fr h k =>
  obind (pShr (Tr.get .bad q1 fr) (.int .u64 (.ofNat 11))) fun v0 =>
  obind (pAnd v0 (.int .u32 (.ofNat 31))) fun v1 =>
  obind (pConv .i64 v1) fun v2 =>
  obind (pFa 3 (Tr.get .bad q5 fr)) fun v3 =>
  obind (wSt1 v3 v2 h) fun h5 =>
  k fr h5)
 .skip))
 (.seq (.seq (.reg fun _ fr h k =>
  obind (pAnd (Tr.get .bad q6 fr) (.int .i64 (.ofNat 8))) fun v0 =>
  obind (pNeq v0 (.int .i64 (.ofNat 0))) fun v1 =>
  forceG v1 fun v => Tr.setK .bad v q37 fr fun f37 =>
  k f37 h)
 (.cond 37 q37 (.reg fun _ fr h k =>
  obind (pShr (Tr.get .bad q1 fr) (.int .u64 (.ofNat 6))) fun v0 =>
  obind (pAnd v0 (.int .u32 (.ofNat 31))) fun v1 =>
  obind (pConv .i64 v1) fun v2 =>
  obind (pFa 4 (Tr.get .bad q5 fr)) fun v3 =>
  obind (wSt1 v3 v2 h) fun h5 =>
  k fr h5)
 .skip))
 (.seq (.block 0 (.seq (.reg fun _ fr h k =>
  obind (pAnd (Tr.get .bad q6 fr) (.int .i64 (.ofNat 16))) fun v0 =>
  obind (pNeq v0 (.int .i64 (.ofNat 0))) fun v1 =>
  forceG v1 fun v => Tr.setK .bad v q43 fr fun f43 =>
  k f43 h)
 (.cond 43 q43 (.reg fun _ fr h k =>
  obind (pAnd (Tr.get .bad q1 fr) (.int .u32 (.ofNat 65535))) fun v0 =>
  obind (pFa 5 (Tr.get .bad q5 fr)) fun v1 =>
  obind (wSt1 v1 v0 h) fun h3 =>
  k fr h3)
 (.seq (.reg fun _ fr h k =>
  obind (pAnd (Tr.get .bad q6 fr) (.int .i64 (.ofNat 32))) fun v0 =>
  obind (pNeq v0 (.int .i64 (.ofNat 0))) fun v1 =>
  forceG v1 fun v => Tr.setK .bad v q50 fr fun f50 =>
  k f50 h)
 (.cond 50 q50 (.reg fun _ fr h k =>
  obind (pAnd (Tr.get .bad q1 fr) (.int .u32 (.ofNat 67108863))) fun v0 =>
  obind (pFa 5 (Tr.get .bad q5 fr)) fun v1 =>
  obind (wSt1 v1 v0 h) fun h3 =>
  k fr h3)
 .skip)))))
 (.seq (.reg fun _ fr h k =>
  obind (rLdN 6 (Tr.get .bad q5 fr) h) fun v0 =>
  obind (wStN 6 (Tr.get .bad q4 fr) v0 h) fun h2 =>
  k fr h2)
 .ret))))))))), resF [.cN 4 6]⟩
theorem g128_ok : Comp Tryz.prog Tryz.f128 2 [4, 5, 6, 13, 21, 29, 37, 43, 50] g128 := ⟨_, [.cN 4 6], rfl, by kernel_rfl, by decide, by kernel_rfl, by kernel_rfl, rfl, rfl⟩
/-- pianola/decode.kind -/
def g129 : GFunc := ⟨1, (.seq (.reg fun _ fr h k =>
  forceG (.int .i64 (.ofNat 0)) fun v => Tr.setK .bad v q2 fr fun f2 =>
  k f2 h)
 (.seq (.reg fun _ fr h k =>
  obind (pShr (Tr.get .bad q0 fr) (.int .u64 (.ofNat 26))) fun v0 =>
  forceG v0 fun v => Tr.setK .bad v q3 fr fun f3 =>
  k f3 h)
 (.seq (.reg fun _ fr h k =>
  forceG (Tr.get .bad q3 fr) fun v => Tr.setK .bad v q6 fr fun f6 =>
  k f6 h)
 (.block 0 (.seq (.reg fun _ fr h k =>
  obind (pEql (Tr.get .bad q6 fr) (.int .u32 (.ofNat 0))) fun v0 =>
  forceG v0 fun v => Tr.setK .bad v q9 fr fun f9 =>
  k f9 h)
 (.cond 9 q9 (.seq (.reg fun call fr h k =>
  obind (pAnd (Tr.get .bad q0 fr) (.int .u32 (.ofNat 63))) fun v0 =>
  call q185 [v0] h fun v1 h2 =>
  forceG v1 fun v => Tr.setK .bad v q2 fr fun f2 =>
  k f2 h2)
 .ret)
 (.seq (.reg fun _ fr h k =>
  obind (pEql (Tr.get .bad q6 fr) (.int .u32 (.ofNat 1))) fun v0 =>
  forceG v0 fun v => Tr.setK .bad v q14 fr fun f14 =>
  k f14 h)
 (.cond 14 q14 (.seq (.reg fun call fr h k =>
  obind (pShr (Tr.get .bad q0 fr) (.int .u64 (.ofNat 16))) fun v0 =>
  obind (pAnd v0 (.int .u32 (.ofNat 31))) fun v1 =>
  call q186 [v1] h fun v2 h3 =>
  forceG v2 fun v => Tr.setK .bad v q2 fr fun f2 =>
  k f2 h3)
 .ret)
 (.seq (.reg fun _ fr h k =>
  obind (pEql (Tr.get .bad q6 fr) (.int .u32 (.ofNat 16))) fun v0 =>
  forceG v0 fun v => Tr.setK .bad v q20 fr fun f20 =>
  k f20 h)
 (.cond 20 q20 (.seq (.reg fun call fr h k =>
  call q187 [(Tr.get .bad q0 fr)] h fun v0 h1 =>
  forceG v0 fun v => Tr.setK .bad v q2 fr fun f2 =>
  k f2 h1)
 .ret)
 (.seq (.reg fun _ fr h k =>
  obind (pEql (Tr.get .bad q6 fr) (.int .u32 (.ofNat 28))) fun v0 =>
  forceG v0 fun v => Tr.setK .bad v q24 fr fun f24 =>
  k f24 h)
 (.cond 24 q24 (.seq (.reg fun call fr h k =>
  obind (pAnd (Tr.get .bad q0 fr) (.int .u32 (.ofNat 63))) fun v0 =>
  call q188 [v0] h fun v1 h2 =>
  forceG v1 fun v => Tr.setK .bad v q2 fr fun f2 =>
  k f2 h2)
 .ret)
 (.seq (.reg fun call fr h k =>
  call q189 [(Tr.get .bad q3 fr)] h fun v0 h1 =>
  forceG v0 fun v => Tr.setK .bad v q2 fr fun f2 =>
  k f2 h1)
 .ret))))))))))))), resF [.t 2]⟩
theorem g129_ok : Comp Tryz.prog Tryz.f129 1 [2, 3, 6, 9, 14, 20, 24] g129 := ⟨_, [.t 2], rfl, by kernel_rfl, by decide, by kernel_rfl, by kernel_rfl, rfl, rfl⟩
/-- pianola/opt.Opt -/
def g130 : GFunc := ⟨1, (.seq (.reg fun _ fr h k =>
  forceG .nils fun v => Tr.setK .bad v q2 fr fun f2 =>
  k f2 h)
 (.seq (.reg fun call fr h k =>
  call q191 [(Tr.get .bad q0 fr)] h fun v0 h1 =>
  call q190 [v0] h1 fun v1 h2 =>
  forceG v1 fun v => Tr.setK .bad v q2 fr fun f2 =>
  k f2 h2)
 .ret)), resF [.t 2]⟩
theorem g130_ok : Comp Tryz.prog Tryz.f130 1 [2] g130 := ⟨_, [.t 2], rfl, by kernel_rfl, by decide, by kernel_rfl, by kernel_rfl, rfl, rfl⟩
/-- pianola/lift.Of -/
def g131 : GFunc := ⟨1, (.seq (.reg fun _ fr h k =>
  obind2 (nBox (Tr.get .bad q0 fr) h) fun v0 h1 =>
  forceG v0 fun v => Tr.setK .bad v q1 fr fun f1 =>
  forceG .nils fun v => Tr.setK .bad v q2 f1 fun f2 =>
  k f2 h1)
 (.seq (.reg fun _ fr h k =>
  obind (pFa 0 (Tr.get .bad q1 fr)) fun v0 =>
  obind (rLd1 v0 h) fun v1 =>
  forceG v1 fun v => Tr.setK .bad v q3 fr fun f3 =>
  k f3 h)
 (.seq (.block 0 (.seq (.reg fun call fr h k =>
  obind (rLdN 6 (Tr.get .bad q1 fr) h) fun v0 =>
  call q192 [v0] h fun v1 h2 =>
  obind (pNot v1) fun v2 =>
  guardC v2 false h2 (fun k => k (Tr.get .bad q3 fr) h2) fun v3 h4 =>
  guardC v2 false h4 (fun k => obind (pEql v3 (.int .i64 (.ofNat 13))) fun v => k v h4) fun v4 h5 =>
  obind (pPick v2 (.bool true) v4) fun v5 =>
  guardC v5 false h5 (fun k => k (Tr.get .bad q3 fr) h5) fun v6 h7 =>
  guardC v5 false h7 (fun k => obind (pEql v6 (.int .i64 (.ofNat 76))) fun v => k v h7) fun v7 h8 =>
  obind (pPick v5 (.bool true) v7) fun v8 =>
  guardC v8 false h8 (fun k => k (Tr.get .bad q3 fr) h8) fun v9 h10 =>
  guardC v8 false h10 (fun k => obind (pEql v9 (.int .i64 (.ofNat 77))) fun v => k v h10) fun v10 h11 =>
  obind (pPick v8 (.bool true) v10) fun v11 =>
  forceG v11 fun v => Tr.setK .bad v q6 fr fun f6 =>
  k f6 h11)
 (.cond 6 q6 (.seq (.reg fun _ fr h k =>
  forceG .nils fun v => Tr.setK .bad v q2 fr fun f2 =>
  k f2 h)
 .ret)
 (.seq (.reg fun _ fr h k =>
  obind (pEql (Tr.get .bad q3 fr) (.int .i64 (.ofNat 53))) fun v0 =>
  forceG v0 fun v => Tr.setK .bad v q22 fr fun f22 =>
  k f22 h)
 (.cond 22 q22 (.seq (.reg fun _ fr h k =>
  obind (pFa 2 (Tr.get .bad q1 fr)) fun v0 =>
  obind (rLd1 v0 h) fun v1 =>
  obind (pFa 5 (Tr.get .bad q1 fr)) fun v2 =>
  obind (rLd1 v2 h) fun v3 =>
  obind (pShl v3 (.int .u64 (.ofNat 16))) fun v4 =>
  obind (pBuild [.int .i64 (.ofNat 0), .int .i64 (.ofNat 0), .int .i64 (.ofNat 0), .int .i64 (.ofNat 0), .int .u32 (.ofNat 0)] [(0, 1, (.int .i64 (.ofNat 1))), (1, 1, v1), (4, 1, v4)]) fun v5 =>
  obind2 (nBuildS (rep [.int .i64 (.ofNat 0), .int .i64 (.ofNat 0), .int .i64 (.ofNat 0), .int .i64 (.ofNat 0), .int .u32 (.ofNat 0)] 1) 1 5 none [(0, 5, v5)] h) fun v6 h7 =>
  forceG v6 fun v => Tr.setK .bad v q2 fr fun f2 =>
  k f2 h7)
 .ret)
 (.seq (.reg fun _ fr h k =>
  obind (pEql (Tr.get .bad q3 fr) (.int .i64 (.ofNat 14))) fun v0 =>
  forceG v0 fun v => Tr.setK .bad v q32 fr fun f32 =>
  k f32 h)
 (.cond 32 q32 (.seq (.reg fun _ fr h k =>
  obind (pFa 3 (Tr.get .bad q1 fr)) fun v0 =>
  obind (rLd1 v0 h) fun v1 =>
  obind (pBuild [.int .i64 (.ofNat 0), .int .i64 (.ofNat 0), .int .i64 (.ofNat 0), .int .i64 (.ofNat 0), .int .u32 (.ofNat 0)] [(0, 1, (.int .i64 (.ofNat 2))), (1, 1, v1), (2, 1, (.int .i64 (.ofNat 32)))]) fun v2 =>
  obind2 (nBuildS (rep [.int .i64 (.ofNat 0), .int .i64 (.ofNat 0), .int .i64 (.ofNat 0), .int .i64 (.ofNat 0), .int .u32 (.ofNat 0)] 1) 1 5 none [(0, 5, v2)] h) fun v3 h4 =>
  forceG v3 fun v => Tr.setK .bad v q2 fr fun f2 =>
  k f2 h4)
 .ret)
 (.seq (.reg fun _ fr h k =>
  obind (pEql (Tr.get .bad q3 fr) (.int .i64 (.ofNat 16))) fun v0 =>
  forceG v0 fun v => Tr.setK .bad v q39 fr fun f39 =>
  k f39 h)
 (.cond 39 q39 (.seq (.reg fun _ fr h k =>
  obind (pFa 3 (Tr.get .bad q1 fr)) fun v0 =>
  obind (rLd1 v0 h) fun v1 =>
  obind (pBuild [.int .i64 (.ofNat 0), .int .i64 (.ofNat 0), .int .i64 (.ofNat 0), .int .i64 (.ofNat 0), .int .u32 (.ofNat 0)] [(0, 1, (.int .i64 (.ofNat 2))), (1, 1, v1), (2, 1, (.int .i64 (.ofNat 33)))]) fun v2 =>
  obind2 (nBuildS (rep [.int .i64 (.ofNat 0), .int .i64 (.ofNat 0), .int .i64 (.ofNat 0), .int .i64 (.ofNat 0), .int .u32 (.ofNat 0)] 1) 1 5 none [(0, 5, v2)] h) fun v3 h4 =>
  forceG v3 fun v => Tr.setK .bad v q2 fr fun f2 =>
  k f2 h4)
 .ret)
 (.seq (.reg fun _ fr h k =>
  obind (pEql (Tr.get .bad q3 fr) (.int .i64 (.ofNat 15))) fun v0 =>
  forceG v0 fun v => Tr.setK .bad v q46 fr fun f46 =>
  k f46 h)
 (.cond 46 q46 (.seq (.reg fun _ fr h k =>
  obind (pFa 1 (Tr.get .bad q1 fr)) fun v0 =>
  obind (rLd1 v0 h) fun v1 =>
  obind (pBuild [.int .i64 (.ofNat 0), .int .i64 (.ofNat 0), .int .i64 (.ofNat 0), .int .i64 (.ofNat 0), .int .u32 (.ofNat 0)] [(0, 1, (.int .i64 (.ofNat 2))), (1, 1, (.int .i64 (.ofNat 32))), (2, 1, v1)]) fun v2 =>
  obind2 (nBuildS (rep [.int .i64 (.ofNat 0), .int .i64 (.ofNat 0), .int .i64 (.ofNat 0), .int .i64 (.ofNat 0), .int .u32 (.ofNat 0)] 1) 1 5 none [(0, 5, v2)] h) fun v3 h4 =>
  forceG v3 fun v => Tr.setK .bad v q2 fr fun f2 =>
  k f2 h4)
 .ret)
 (.seq (.reg fun _ fr h k =>
  obind (pEql (Tr.get .bad q3 fr) (.int .i64 (.ofNat 17))) fun v0 =>
  forceG v0 fun v => Tr.setK .bad v q53 fr fun f53 =>
  k f53 h)
 (.cond 53 q53 (.seq (.reg fun _ fr h k =>
  obind (pFa 1 (Tr.get .bad q1 fr)) fun v0 =>
  obind (rLd1 v0 h) fun v1 =>
  obind (pBuild [.int .i64 (.ofNat 0), .int .i64 (.ofNat 0), .int .i64 (.ofNat 0), .int .i64 (.ofNat 0), .int .u32 (.ofNat 0)] [(0, 1, (.int .i64 (.ofNat 2))), (1, 1, (.int .i64 (.ofNat 33))), (2, 1, v1)]) fun v2 =>
  obind2 (nBuildS (rep [.int .i64 (.ofNat 0), .int .i64 (.ofNat 0), .int .i64 (.ofNat 0), .int .i64 (.ofNat 0), .int .u32 (.ofNat 0)] 1) 1 5 none [(0, 5, v2)] h) fun v3 h4 =>
  forceG v3 fun v => Tr.setK .bad v q2 fr fun f2 =>
  k f2 h4)
 .ret)
 (.seq (.reg fun _ fr h k =>
  obind (pLeq (Tr.get .bad q3 fr) (.int .i64 (.ofNat 3))) fun v0 =>
  forceG v0 fun v => Tr.setK .bad v q60 fr fun f60 =>
  k f60 h)
 (.cond 60 q60 (.seq (.reg fun call fr h k =>
  obind (pFa 4 (Tr.get .bad q1 fr)) fun v0 =>
  obind (rLd1 v0 h) fun v1 =>
  obind (pConv .u32 v1) fun v2 =>
  obind (pBuild [.int .i64 (.ofNat 0), .int .i64 (.ofNat 0), .int .i64 (.ofNat 0), .int .i64 (.ofNat 0), .int .u32 (.ofNat 0)] [(0, 1, (.int .i64 (.ofNat 1))), (1, 1, (.int .i64 (.ofNat 34))), (4, 1, v2)]) fun v3 =>
  call q193 [(Tr.get .bad q3 fr)] h fun v4 h5 =>
  obind (pFa 3 (Tr.get .bad q1 fr)) fun v5 =>
  obind (rLd1 v5 h5) fun v6 =>
  obind (pFa 2 (Tr.get .bad q1 fr)) fun v7 =>
  obind (rLd1 v7 h5) fun v8 =>
  obind (pBuild [.int .i64 (.ofNat 0), .int .i64 (.ofNat 0), .int .i64 (.ofNat 0), .int .i64 (.ofNat 0), .int .u32 (.ofNat 0)] [(0, 1, v4), (1, 1, v6), (2, 1, v8), (3, 1, (.int .i64 (.ofNat 34)))]) fun v9 =>
  obind2 (nBuildS (rep [.int .i64 (.ofNat 0), .int .i64 (.ofNat 0), .int .i64 (.ofNat 0), .int .i64 (.ofNat 0), .int .u32 (.ofNat 0)] 2) 2 5 none [(0, 5, v3), (5, 5, v9)] h5) fun v10 h11 =>
  chk v1 (rLd1 v0 h5) <|
  chk v6 (rLd1 v5 h) <|
  chk v8 (rLd1 v7 h) <|
  forceG v10 fun v => Tr.setK .bad v q2 fr fun f2 =>
  k f2 h11)
 .ret)
 (.seq (.reg fun _ fr h k =>
  obind (pLeq (Tr.get .bad q3 fr) (.int .i64 (.ofNat 6))) fun v0 =>
  forceG v0 fun v => Tr.setK .bad v q75 fr fun f75 =>
  k f75 h)
 (.cond 75 q75 (.seq (.reg fun call fr h k =>
  call q193 [(Tr.get .bad q3 fr)] h fun v0 h1 =>
  obind (pFa 3 (Tr.get .bad q1 fr)) fun v1 =>
  obind (rLd1 v1 h1) fun v2 =>
  obind (pFa 2 (Tr.get .bad q1 fr)) fun v3 =>
  obind (rLd1 v3 h1) fun v4 =>
  obind (pFa 1 (Tr.get .bad q1 fr)) fun v5 =>
  obind (rLd1 v5 h1) fun v6 =>
  obind (pBuild [.int .i64 (.ofNat 0), .int .i64 (.ofNat 0), .int .i64 (.ofNat 0), .int .i64 (.ofNat 0), .int .u32 (.ofNat 0)] [(0, 1, v0), (1, 1, v2), (2, 1, v4), (3, 1, v6)]) fun v7 =>
  obind2 (nBuildS (rep [.int .i64 (.ofNat 0), .int .i64 (.ofNat 0), .int .i64 (.ofNat 0), .int .i64 (.ofNat 0), .int .u32 (.ofNat 0)] 1) 1 5 none [(0, 5, v7)] h1) fun v8 h9 =>
  chk v2 (rLd1 v1 h) <|
  chk v4 (rLd1 v3 h) <|
  chk v6 (rLd1 v5 h) <|
  forceG v8 fun v => Tr.setK .bad v q2 fr fun f2 =>
  k f2 h9)
 .ret)
 (.seq (.reg fun call fr h k =>
  obind (rLdN 6 (Tr.get .bad q1 fr) h) fun v0 =>
  call q194 [v0] h fun v1 h2 =>
  obind (pFa 2 (Tr.get .bad q1 fr)) fun v2 =>
  obind (rLd1 v2 h2) fun v3 =>
  obind (pEql v1 v3) fun v4 =>
  guardC v4 true h2 (fun k => k (Tr.get .bad q3 fr) h2) fun v5 h6 =>
  guardC v4 true h6 (fun k => obind (pGeq v5 (.int .i64 (.ofNat 46))) fun v => k v h6) fun v6 h7 =>
  obind (pPick v4 v6 (.bool false)) fun v7 =>
  guardC v7 true h7 (fun k => k (Tr.get .bad q3 fr) h7) fun v8 h9 =>
  guardC v7 true h9 (fun k => obind (pLeq v8 (.int .i64 (.ofNat 52))) fun v => k v h9) fun v9 h10 =>
  obind (pPick v7 v9 (.bool false)) fun v10 =>
  chk v3 (rLd1 v2 h) <|
  forceG v10 fun v => Tr.setK .bad v q88 fr fun f88 =>
  k f88 h10)
 (.cond 88 q88 (.seq (.reg fun call fr h k =>
  obind (rLdN 6 (Tr.get .bad q1 fr) h) fun v0 =>
  call q195 [v0] h fun v1 h2 =>
  obind (pBuild [.int .i64 (.ofNat 0), .int .i64 (.ofNat 0), .int .i64 (.ofNat 0), .int .i64 (.ofNat 0), .int .u32 (.ofNat 0)] [(0, 1, (.int .i64 (.ofNat 1))), (1, 1, (.int .i64 (.ofNat 34))), (4, 1, v1)]) fun v2 =>
  call q193 [(Tr.get .bad q3 fr)] h2 fun v3 h4 =>
  obind (pFa 2 (Tr.get .bad q1 fr)) fun v4 =>
  obind (rLd1 v4 h4) fun v5 =>
  obind (pFa 1 (Tr.get .bad q1 fr)) fun v6 =>
  obind (rLd1 v6 h4) fun v7 =>
  obind (pBuild [.int .i64 (.ofNat 0), .int .i64 (.ofNat 0), .int .i64 (.ofNat 0), .int .i64 (.ofNat 0), .int .u32 (.ofNat 0)] [(0, 1, v3), (1, 1, v5), (2, 1, v7), (3, 1, (.int .i64 (.ofNat 34)))]) fun v8 =>
  obind2 (nBuildS (rep [.int .i64 (.ofNat 0), .int .i64 (.ofNat 0), .int .i64 (.ofNat 0), .int .i64 (.ofNat 0), .int .u32 (.ofNat 0)] 2) 2 5 none [(0, 5, v2), (5, 5, v8)] h4) fun v9 h10 =>
  chk v5 (rLd1 v4 h) <|
  chk v5 (rLd1 v4 h2) <|
  chk v7 (rLd1 v6 h) <|
  chk v7 (rLd1 v6 h2) <|
  forceG v9 fun v => Tr.setK .bad v q2 fr fun f2 =>
  k f2 h10)
 .ret)
 .skip)))))))))))))))))))
 (.seq (.reg fun call fr h k =>
  call q193 [(Tr.get .bad q3 fr)] h fun v0 h1 =>
  obind (pFa 3 (Tr.get .bad q1 fr)) fun v1 =>
  obind (rLd1 v1 h1) fun v2 =>
  obind (pFa 1 (Tr.get .bad q1 fr)) fun v3 =>
  obind (rLd1 v3 h1) fun v4 =>
  obind (pFa 2 (Tr.get .bad q1 fr)) fun v5 =>
  obind (rLd1 v5 h1) fun v6 =>
  obind (pBuild [.int .i64 (.ofNat 0), .int .i64 (.ofNat 0), .int .i64 (.ofNat 0), .int .i64 (.ofNat 0), .int .u32 (.ofNat 0)] [(0, 1, v0), (1, 1, v2), (2, 1, v4), (3, 1, v6)]) fun v7 =>
  obind2 (nBuildS (rep [.int .i64 (.ofNat 0), .int .i64 (.ofNat 0), .int .i64 (.ofNat 0), .int .i64 (.ofNat 0), .int .u32 (.ofNat 0)] 1) 1 5 none [(0, 5, v7)] h1) fun v8 h9 =>
  chk v2 (rLd1 v1 h) <|
  chk v4 (rLd1 v3 h) <|
  chk v6 (rLd1 v5 h) <|
  forceG v8 fun v => Tr.setK .bad v q2 fr fun f2 =>
  k f2 h9)
 .ret)))), resF [.t 2]⟩
theorem g131_ok : Comp Tryz.prog Tryz.f131 1 [1, 2, 3, 6, 22, 32, 39, 46, 53, 60, 75, 88] g131 := ⟨_, [.t 2], rfl, by kernel_rfl, by decide, by kernel_rfl, by kernel_rfl, rfl, rfl⟩
/-- (*pianola/pianolaref9.Wheel).Cancel -/
def g144 : GFunc := ⟨2, (.seq (.reg fun _ fr h k =>
  forceG (.bool false) fun v => Tr.setK .bad v q4 fr fun f4 =>
  k f4 h)
 (.seq (.seq (.reg fun _ fr h k =>
  forceG (.int .i64 (.ofNat 0)) fun v => Tr.setK .bad v q5 fr fun f5 =>
  k f5 h)
 (.block 0 (.loop (.seq (.seq (.reg fun _ fr h k =>
  obind (pNilck (Tr.get .bad q0 fr)) fun v0 =>
  obind (pFa 0 v0) fun v1 =>
  obind (rLd1 v1 h) fun v2 =>
  obind (pLenS v2) fun v3 =>
  obind (pLss (Tr.get .bad q5 fr) v3) fun v4 =>
  forceG v4 fun v => Tr.setK .bad v q12 fr fun f12 =>
  k f12 h)
 (.cond 12 q12 .skip
 (.exit 0)))
 (.seq (.block 1 (.seq (.reg fun _ fr h k =>
  obind (pNilck (Tr.get .bad q0 fr)) fun v0 =>
  obind (pFa 0 v0) fun v1 =>
  obind (rLd1 v1 h) fun v2 =>
  obind (pIdxS 3 v2 (Tr.get .bad q5 fr)) fun v3 =>
  obind (pFa 1 v3) fun v4 =>
  obind (rLd1 v4 h) fun v5 =>
  obind (pEql v5 (Tr.get .bad q1 fr)) fun v6 =>
  forceG v6 fun v => Tr.setK .bad v q24 fr fun f24 =>
  k f24 h)
 (.cond 24 q24 (.seq (.reg fun _ fr h k =>
  obind2 (nBuildS (rep [.int .i64 (.ofNat 0), .int .i64 (.ofNat 0), .int .i64 (.ofNat 0)] 0) 0 3 none [] h) fun v0 h1 =>
  obind (pNilck (Tr.get .bad q0 fr)) fun v1 =>
  obind (pFa 0 v1) fun v2 =>
  obind (rLd1 v2 h1) fun v3 =>
  obind (pSlS 3 none (some (Tr.get .bad q5 fr)) none v3) fun v4 =>
  obind2 (nAppend 3 24 none v0 v4 h1) fun v5 h6 =>
  obind (pNilck (Tr.get .bad q0 fr)) fun v6 =>
  obind (pFa 0 v6) fun v7 =>
  obind (rLd1 v7 h6) fun v8 =>
  obind (pAdd (Tr.get .bad q5 fr) (.int .i64 (.ofNat 1))) fun v9 =>
  obind (pSlS 3 (some v9) none none v8) fun v10 =>
  obind2 (nAppend 3 24 none v5 v10 h6) fun v11 h12 =>
  obind (pNilck (Tr.get .bad q0 fr)) fun v12 =>
  obind (pFa 0 v12) fun v13 =>
  obind (wSt1 v13 v11 h12) fun h15 =>
  chk v8 (rLd1 v7 h1) <|
  k fr h15)
 (.seq (.reg fun _ fr h k =>
  forceG (.bool true) fun v => Tr.setK .bad v q4 fr fun f4 =>
  k f4 h)
 .ret))
 .skip)))
 (.reg fun _ fr h k =>
  obind (pAdd (Tr.get .bad q5 fr) (.int .i64 (.ofNat 1))) fun v0 =>
  forceG v0 fun v => Tr.setK .bad v q5 fr fun f5 =>
  k f5 h))))))
 (.seq (.reg fun _ fr h k =>
  forceG (.bool false) fun v => Tr.setK .bad v q4 fr fun f4 =>
  k f4 h)
 .ret))), resF [.t 4]⟩
theorem g144_ok : Comp Tryz.prog Tryz.f144 2 [4, 5, 12, 24] g144 := ⟨_, [.t 4], rfl, by kernel_rfl, by decide, by kernel_rfl, by kernel_rfl, rfl, rfl⟩
/-- pianola/pianolaref3.rows -/
def g150 : GFunc := ⟨1, (.seq (.reg fun _ fr h k =>
  forceG .nils fun v => Tr.setK .bad v q2 fr fun f2 =>
  k f2 h)
 (.seq (.seq (.reg fun _ fr h k =>
  obind (pEql (Tr.get .bad q0 fr) (.int .i64 (.ofNat 0))) fun v0 =>
  forceG v0 fun v => Tr.setK .bad v q4 fr fun f4 =>
  k f4 h)
 (.cond 4 q4 (.seq (.reg fun call fr h k =>
  call q200 [] h fun v0 h1 =>
  forceG v0 fun v => Tr.setK .bad v q2 fr fun f2 =>
  k f2 h1)
 .ret)
 .skip))
 (.seq (.seq (.reg fun _ fr h k =>
  obind (pEql (Tr.get .bad q0 fr) (.int .i64 (.ofNat 1))) fun v0 =>
  guardC v0 false h (fun k => k (Tr.get .bad q0 fr) h) fun v1 h2 =>
  guardC v0 false h2 (fun k => obind (pEql v1 (.int .i64 (.ofNat 16))) fun v => k v h2) fun v2 h3 =>
  obind (pPick v0 (.bool true) v2) fun v3 =>
  guardC v3 false h3 (fun k => k (Tr.get .bad q0 fr) h3) fun v4 h5 =>
  guardC v3 false h5 (fun k => obind (pEql v4 (.int .i64 (.ofNat 28))) fun v => k v h5) fun v5 h6 =>
  obind (pPick v3 (.bool true) v5) fun v6 =>
  forceG v6 fun v => Tr.setK .bad v q15 fr fun f15 =>
  k f15 h6)
 (.cond 15 q15 (.seq (.reg fun call fr h k =>
  call q201 [] h fun v0 h1 =>
  forceG v0 fun v => Tr.setK .bad v q2 fr fun f2 =>
  k f2 h1)
 .ret)
 .skip))
 (.seq (.reg fun call fr h k =>
  call q202 [] h fun v0 h1 =>
  forceG v0 fun v => Tr.setK .bad v q2 fr fun f2 =>
  k f2 h1)
 .ret)))), resF [.t 2]⟩
theorem g150_ok : Comp Tryz.prog Tryz.f150 1 [2, 4, 15] g150 := ⟨_, [.t 2], rfl, by kernel_rfl, by decide, by kernel_rfl, by kernel_rfl, rfl, rfl⟩
/-- pianola/pianolaref3.sub -/
def g151 : GFunc := ⟨1, (.seq (.reg fun _ fr h k =>
  forceG (.int .i64 (.ofNat 0)) fun v => Tr.setK .bad v q2 fr fun f2 =>
  k f2 h)
 (.seq (.reg fun _ fr h k =>
  obind (pAnd (Tr.get .bad q0 fr) (.int .u32 (.ofNat 63))) fun v0 =>
  obind (pConv .i64 v0) fun v1 =>
  obind (pShr (Tr.get .bad q0 fr) (.int .u64 (.ofNat 16))) fun v2 =>
  obind (pAnd v2 (.int .u32 (.ofNat 31))) fun v3 =>
  obind (pConv .i64 v3) fun v4 =>
  obind (pShr (Tr.get .bad q0 fr) (.int .u64 (.ofNat 21))) fun v5 =>
  obind (pAnd v5 (.int .u32 (.ofNat 31))) fun v6 =>
  obind (pConv .i64 v6) fun v7 =>
  forceG v1 fun v => Tr.setK .bad v q3 fr fun f3 =>
  forceG v4 fun v => Tr.setK .bad v q4 f3 fun f4 =>
  forceG v7 fun v => Tr.setK .bad v q5 f4 fun f5 =>
  k f5 h)
 (.seq (.seq (.reg fun _ fr h k =>
  obind (pShr (Tr.get .bad q0 fr) (.int .u64 (.ofNat 26))) fun v0 =>
  forceG v0 fun v => Tr.setK .bad v q18 fr fun f18 =>
  k f18 h)
 (.block 0 (.seq (.seq (.reg fun _ fr h k =>
  obind (pEql (Tr.get .bad q18 fr) (.int .u32 (.ofNat 0))) fun v0 =>
  forceG v0 fun v => Tr.setK .bad v q19 fr fun f19 =>
  k f19 h)
 (.cond 19 q19 .skip
 (.reg fun _ fr h k =>
  obind (pEql (Tr.get .bad q18 fr) (.int .u32 (.ofNat 28))) fun v0 =>
  forceG v0 fun v => Tr.setK .bad v q19 fr fun f19 =>
  k f19 h)))
 (.cond 19 q19 (.seq (.reg fun _ fr h k =>
  forceG (Tr.get .bad q3 fr) fun v => Tr.setK .bad v q2 fr fun f2 =>
  k f2 h)
 .ret)
 (.seq (.reg fun _ fr h k =>
  obind (pEql (Tr.get .bad q18 fr) (.int .u32 (.ofNat 1))) fun v0 =>
  forceG v0 fun v => Tr.setK .bad v q23 fr fun f23 =>
  k f23 h)
 (.cond 23 q23 (.seq (.reg fun _ fr h k =>
  forceG (Tr.get .bad q4 fr) fun v => Tr.setK .bad v q2 fr fun f2 =>
  k f2 h)
 .ret)
 (.seq (.reg fun _ fr h k =>
  obind (pEql (Tr.get .bad q18 fr) (.int .u32 (.ofNat 16))) fun v0 =>
  forceG v0 fun v => Tr.setK .bad v q26 fr fun f26 =>
  k f26 h)
 (.cond 26 q26 (.seq (.seq (.reg fun _ fr h k =>
  obind (pEql (Tr.get .bad q5 fr) (.int .i64 (.ofNat 16))) fun v0 =>
  forceG v0 fun v => Tr.setK .bad v q29 fr fun f29 =>
  k f29 h)
 (.cond 29 q29 (.seq (.reg fun _ fr h k =>
  obind (pAdd (.int .i64 (.ofNat 64)) (Tr.get .bad q3 fr)) fun v0 =>
  forceG v0 fun v => Tr.setK .bad v q2 fr fun f2 =>
  k f2 h)
 .ret)
 .skip))
 (.seq (.reg fun _ fr h k =>
  forceG (Tr.get .bad q5 fr) fun v => Tr.setK .bad v q2 fr fun f2 =>
  k f2 h)
 .ret))
 .skip))))))))
 (.seq (.reg fun _ fr h k =>
  forceG (.int .i64 (.ofNat 0)) fun v => Tr.setK .bad v q2 fr fun f2 =>
  k f2 h)
 .ret)))), resF [.t 2]⟩
theorem g151_ok : Comp Tryz.prog Tryz.f151 1 [2, 3, 4, 5, 18, 19, 23, 26, 29] g151 := ⟨_, [.t 2], rfl, by kernel_rfl, by decide, by kernel_rfl, by kernel_rfl, rfl, rfl⟩
/-- pianola/pianolaref3.has -/
def g152 : GFunc := ⟨2, (.seq (.reg fun _ fr h k =>
  forceG (.bool false) fun v => Tr.setK .bad v q4 fr fun f4 =>
  k f4 h)
 (.seq (.seq (.reg fun _ fr h k =>
  forceG (.int .i64 (.ofNat 0)) fun v => Tr.setK .bad v q5 fr fun f5 =>
  k f5 h)
 (.block 0 (.loop (.seq (.seq (.reg fun _ fr h k =>
  obind (pLenStr (Tr.get .bad q0 fr)) fun v0 =>
  obind (pLss (Tr.get .bad q5 fr) v0) fun v1 =>
  forceG v1 fun v => Tr.setK .bad v q9 fr fun f9 =>
  k f9 h)
 (.cond 9 q9 .skip
 (.exit 0)))
 (.seq (.block 1 (.seq (.reg fun _ fr h k =>
  obind (pIdxStr (Tr.get .bad q0 fr) (Tr.get .bad q5 fr)) fun v0 =>
  obind (pEql v0 (Tr.get .bad q1 fr)) fun v1 =>
  forceG v1 fun v => Tr.setK .bad v q16 fr fun f16 =>
  k f16 h)
 (.cond 16 q16 (.seq (.reg fun _ fr h k =>
  forceG (.bool true) fun v => Tr.setK .bad v q4 fr fun f4 =>
  k f4 h)
 .ret)
 .skip)))
 (.reg fun _ fr h k =>
  obind (pAdd (Tr.get .bad q5 fr) (.int .i64 (.ofNat 1))) fun v0 =>
  forceG v0 fun v => Tr.setK .bad v q5 fr fun f5 =>
  k f5 h))))))
 (.seq (.reg fun _ fr h k =>
  forceG (.bool false) fun v => Tr.setK .bad v q4 fr fun f4 =>
  k f4 h)
 .ret))), resF [.t 4]⟩
theorem g152_ok : Comp Tryz.prog Tryz.f152 2 [4, 5, 9, 16] g152 := ⟨_, [.t 4], rfl, by kernel_rfl, by decide, by kernel_rfl, by kernel_rfl, rfl, rfl⟩
/-- pianola/pianolaref1.Sar -/
def g153 : GFunc := ⟨2, (.seq (.reg fun _ fr h k =>
  forceG (.int .u32 (.ofNat 0)) fun v => Tr.setK .bad v q4 fr fun f4 =>
  k f4 h)
 (.seq (.reg fun _ fr h k =>
  obind (pRem (Tr.get .bad q1 fr) (.int .i64 (.ofNat 32))) fun v0 =>
  obind (pAdd v0 (.int .i64 (.ofNat 32))) fun v1 =>
  obind (pRem v1 (.int .i64 (.ofNat 32))) fun v2 =>
  obind (pConv .u64 v2) fun v3 =>
  forceG v3 fun v => Tr.setK .bad v q5 fr fun f5 =>
  k f5 h)
 (.seq (.block 0 (.loop (.seq (.seq (.reg fun _ fr h k =>
  obind (pGtr (Tr.get .bad q5 fr) (.int .u64 (.ofNat 0))) fun v0 =>
  forceG v0 fun v => Tr.setK .bad v q12 fr fun f12 =>
  k f12 h)
 (.cond 12 q12 .skip
 (.exit 0)))
 (.seq (.block 1 (.reg fun _ fr h k =>
  obind (pShr (Tr.get .bad q0 fr) (.int .u64 (.ofNat 1))) fun v0 =>
  obind (pAnd (Tr.get .bad q0 fr) (.int .u32 (.ofNat 2147483648))) fun v1 =>
  obind (pOr v0 v1) fun v2 =>
  forceG v2 fun v => Tr.setK .bad v q0 fr fun f0 =>
  k f0 h))
 (.reg fun _ fr h k =>
  obind (pSub (Tr.get .bad q5 fr) (.int .u64 (.ofNat 1))) fun v0 =>
  forceG v0 fun v => Tr.setK .bad v q5 fr fun f5 =>
  k f5 h)))))
 (.seq (.reg fun _ fr h k =>
  forceG (Tr.get .bad q0 fr) fun v => Tr.setK .bad v q4 fr fun f4 =>
  k f4 h)
 .ret)))), resF [.t 4]⟩
theorem g153_ok : Comp Tryz.prog Tryz.f153 2 [0, 4, 5, 12] g153 := ⟨_, [.t 4], rfl, by kernel_rfl, by decide, by kernel_rfl, by kernel_rfl, rfl, rfl⟩
/-- pianola/pianolaref18.bit -/
def g154 : GFunc := ⟨1, (.seq (.reg fun _ fr h k =>
  forceG (.int .u32 (.ofNat 0)) fun v => Tr.setK .bad v q2 fr fun f2 =>
  k f2 h)
 (.seq (.seq (.reg fun _ fr h k =>
  forceG (Tr.get .bad q0 fr) fun v => Tr.setK .bad v q3 fr fun f3 =>
  k f3 h)
 (.cond 3 q3 (.seq (.reg fun _ fr h k =>
  forceG (.int .u32 (.ofNat 1)) fun v => Tr.setK .bad v q2 fr fun f2 =>
  k f2 h)
 .ret)
 .skip))
 (.seq (.reg fun _ fr h k =>
  forceG (.int .u32 (.ofNat 0)) fun v => Tr.setK .bad v q2 fr fun f2 =>
  k f2 h)
 .ret))), resF [.t 2]⟩
theorem g154_ok : Comp Tryz.prog Tryz.f154 1 [2, 3] g154 := ⟨_, [.t 2], rfl, by kernel_rfl, by decide, by kernel_rfl, by kernel_rfl, rfl, rfl⟩
/-- pianola/pianolaref1.Less -/
def g155 : GFunc := ⟨3, (.seq (.reg fun _ fr h k =>
  forceG (.bool false) fun v => Tr.setK .bad v q6 fr fun f6 =>
  k f6 h)
 (.seq (.reg fun call fr h k =>
  call q203 [(Tr.get .bad q0 fr), (Tr.get .bad q2 fr)] h fun v0 h1 =>
  call q203 [(Tr.get .bad q1 fr), (Tr.get .bad q2 fr)] h1 fun v1 h2 =>
  obind (pLss v0 v1) fun v2 =>
  forceG v2 fun v => Tr.setK .bad v q6 fr fun f6 =>
  k f6 h2)
 .ret)), resF [.t 6]⟩
theorem g155_ok : Comp Tryz.prog Tryz.f155 3 [6] g155 := ⟨_, [.t 6], rfl, by kernel_rfl, by decide, by kernel_rfl, by kernel_rfl, rfl, rfl⟩
end
end Go.Ev
