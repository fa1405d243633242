/- Ghost code of the Go functions, printed by a program of this session (genfiles.py). -/
import Derived.Test.YtbofkbhobcahiaaGreatEvComp
import Derived.Test.YtbofkbhobcahiaaGreatProg
namespace Go.Ev
open Go.Proofs
set_option maxRecDepth 100000
noncomputable section
/-- pianola/pianolaref4.Links -/
def g179 : GFunc := ⟨1, (.seq (.reg fun _ fr h k =>
  obind2 (nBox (Tr.get .bad q0 fr) h) fun v0 h1 =>
  forceG v0 fun v => Tr.setK .bad v q1 fr fun f1 =>
  forceG (.int .i64 (.ofNat 0)) fun v => Tr.setK .bad v q2 f1 fun f2 =>
  forceG (.bool false) fun v => Tr.setK .bad v q3 f2 fun f3 =>
  k f3 h1)
 (.seq (.seq (.reg fun _ fr h k =>
  obind (pFa 0 (Tr.get .bad q1 fr)) fun v0 =>
  obind (rLd1 v0 h) fun v1 =>
  forceG v1 fun v => Tr.setK .bad v q5 fr fun f5 =>
  k f5 h)
 (.block 0 (.seq (.seq (.reg fun _ fr h k =>
  obind (pEql (Tr.get .bad q5 fr) (.int .i64 (.ofNat 41))) fun v0 =>
  forceG v0 fun v => Tr.setK .bad v q6 fr fun f6 =>
  k f6 h)
 (.cond 6 q6 .skip
 (.seq (.reg fun _ fr h k =>
  obind (pEql (Tr.get .bad q5 fr) (.int .i64 (.ofNat 38))) fun v0 =>
  forceG v0 fun v => Tr.setK .bad v q6 fr fun f6 =>
  k f6 h)
 (.cond 6 q6 .skip
 (.reg fun _ fr h k =>
  obind (pEql (Tr.get .bad q5 fr) (.int .i64 (.ofNat 39))) fun v0 =>
  forceG v0 fun v => Tr.setK .bad v q6 fr fun f6 =>
  k f6 h)))))
 (.cond 6 q6 (.seq (.reg fun _ fr h k =>
  forceG (.int .i64 (.ofNat 31)) fun v => Tr.setK .bad v q2 fr fun f2 =>
  forceG (.bool true) fun v => Tr.setK .bad v q3 f2 fun f3 =>
  k f3 h)
 .ret)
 (.seq (.reg fun _ fr h k =>
  obind (pEql (Tr.get .bad q5 fr) (.int .i64 (.ofNat 8))) fun v0 =>
  forceG v0 fun v => Tr.setK .bad v q10 fr fun f10 =>
  k f10 h)
 (.cond 10 q10 (.seq (.reg fun _ fr h k =>
  obind (pFa 3 (Tr.get .bad q1 fr)) fun v0 =>
  obind (rLd1 v0 h) fun v1 =>
  forceG v1 fun v => Tr.setK .bad v q2 fr fun f2 =>
  forceG (.bool true) fun v => Tr.setK .bad v q3 f2 fun f3 =>
  k f3 h)
 .ret)
 .skip))))))
 (.seq (.reg fun _ fr h k =>
  forceG (.int .i64 (.ofNat 0)) fun v => Tr.setK .bad v q2 fr fun f2 =>
  forceG (.bool false) fun v => Tr.setK .bad v q3 f2 fun f3 =>
  k f3 h)
 .ret))), resF [.t 2, .t 3]⟩
theorem g179_ok : Comp Tryz.prog Tryz.f179 1 [1, 2, 3, 5, 6, 10] g179 := ⟨_, [.t 2, .t 3], rfl, by kernel_rfl, by decide, by kernel_rfl, by kernel_rfl, rfl, rfl⟩
/-- pianola/decode.fields -/
def g184 : GFunc := ⟨1, (.seq (.reg fun _ fr h k =>
  forceG (.int .i64 (.ofNat 0)) fun v => Tr.setK .bad v q2 fr fun f2 =>
  k f2 h)
 (.seq (.block 0 (.seq (.reg fun _ fr h k =>
  obind (pGeq (Tr.get .bad q0 fr) (.int .i64 (.ofNat 1))) fun v0 =>
  guardC v0 true h (fun k => k (Tr.get .bad q0 fr) h) fun v1 h2 =>
  guardC v0 true h2 (fun k => obind (pLeq v1 (.int .i64 (.ofNat 3))) fun v => k v h2) fun v2 h3 =>
  obind (pPick v0 v2 (.bool false)) fun v3 =>
  forceG v3 fun v => Tr.setK .bad v q3 fr fun f3 =>
  k f3 h3)
 (.cond 3 q3 (.seq (.reg fun _ fr h k =>
  forceG (.int .i64 (.ofNat 14)) fun v => Tr.setK .bad v q2 fr fun f2 =>
  k f2 h)
 .ret)
 (.seq (.reg fun _ fr h k =>
  obind (pGeq (Tr.get .bad q0 fr) (.int .i64 (.ofNat 4))) fun v0 =>
  guardC v0 true h (fun k => k (Tr.get .bad q0 fr) h) fun v1 h2 =>
  guardC v0 true h2 (fun k => obind (pLeq v1 (.int .i64 (.ofNat 6))) fun v => k v h2) fun v2 h3 =>
  obind (pPick v0 v2 (.bool false)) fun v3 =>
  guardC v3 false h3 (fun k => k (Tr.get .bad q0 fr) h3) fun v4 h5 =>
  guardC v3 false h5 (fun k => obind (pEql v4 (.int .i64 (.ofNat 9))) fun v => k v h5) fun v5 h6 =>
  obind (pPick v3 (.bool true) v5) fun v6 =>
  guardC v6 false h6 (fun k => k (Tr.get .bad q0 fr) h6) fun v7 h8 =>
  guardC v6 false h8 (fun k => obind (pEql v7 (.int .i64 (.ofNat 10))) fun v => k v h8) fun v8 h9 =>
  obind (pPick v6 (.bool true) v8) fun v9 =>
  guardC v9 false h9 (fun k => k (Tr.get .bad q0 fr) h9) fun v10 h11 =>
  guardC v9 false h11 (fun k => obind (pGeq v10 (.int .i64 (.ofNat 22))) fun v => k v h11) fun v11 h12 =>
  guardC v9 false h12 (fun k => k v11 h12) fun v12 h13 =>
  guardC v12 true h13 (fun k => k (Tr.get .bad q0 fr) h13) fun v13 h14 =>
  guardC v12 true h14 (fun k => obind (pLeq v13 (.int .i64 (.ofNat 31))) fun v => k v h14) fun v14 h15 =>
  guardC v9 false h15 (fun k => obind (pPick v12 v14 (.bool false)) fun v => k v h15) fun v15 h16 =>
  obind (pPick v9 (.bool true) v15) fun v16 =>
  guardC v16 false h16 (fun k => k (Tr.get .bad q0 fr) h16) fun v17 h18 =>
  guardC v16 false h18 (fun k => obind (pEql v17 (.int .i64 (.ofNat 63))) fun v => k v h18) fun v18 h19 =>
  obind (pPick v16 (.bool true) v18) fun v19 =>
  forceG v19 fun v => Tr.setK .bad v q10 fr fun f10 =>
  k f10 h19)
 (.cond 10 q10 (.seq (.reg fun _ fr h k =>
  forceG (.int .i64 (.ofNat 7)) fun v => Tr.setK .bad v q2 fr fun f2 =>
  k f2 h)
 .ret)
 (.seq (.reg fun _ fr h k =>
  obind (pEql (Tr.get .bad q0 fr) (.int .i64 (.ofNat 7))) fun v0 =>
  guardC v0 false h (fun k => k (Tr.get .bad q0 fr) h) fun v1 h2 =>
  guardC v0 false h2 (fun k => obind (pEql v1 (.int .i64 (.ofNat 15))) fun v => k v h2) fun v2 h3 =>
  obind (pPick v0 (.bool true) v2) fun v3 =>
  guardC v3 false h3 (fun k => k (Tr.get .bad q0 fr) h3) fun v4 h5 =>
  guardC v3 false h5 (fun k => obind (pEql v4 (.int .i64 (.ofNat 17))) fun v => k v h5) fun v5 h6 =>
  obind (pPick v3 (.bool true) v5) fun v6 =>
  forceG v6 fun v => Tr.setK .bad v q37 fr fun f37 =>
  k f37 h6)
 (.cond 37 q37 (.seq (.reg fun _ fr h k =>
  forceG (.int .i64 (.ofNat 1)) fun v => Tr.setK .bad v q2 fr fun f2 =>
  k f2 h)
 .ret)
 (.seq (.reg fun _ fr h k =>
  obind (pEql (Tr.get .bad q0 fr) (.int .i64 (.ofNat 8))) fun v0 =>
  guardC v0 false h (fun k => k (Tr.get .bad q0 fr) h) fun v1 h2 =>
  guardC v0 false h2 (fun k => obind (pEql v1 (.int .i64 (.ofNat 64))) fun v => k v h2) fun v2 h3 =>
  obind (pPick v0 (.bool true) v2) fun v3 =>
  guardC v3 false h3 (fun k => k (Tr.get .bad q0 fr) h3) fun v4 h5 =>
  guardC v3 false h5 (fun k => obind (pEql v4 (.int .i64 (.ofNat 65))) fun v => k v h5) fun v5 h6 =>
  obind (pPick v3 (.bool true) v5) fun v6 =>
  forceG v6 fun v => Tr.setK .bad v q48 fr fun f48 =>
  k f48 h6)
 (.cond 48 q48 (.seq (.reg fun _ fr h k =>
  forceG (.int .i64 (.ofNat 5)) fun v => Tr.setK .bad v q2 fr fun f2 =>
  k f2 h)
 .ret)
 (.seq (.reg fun _ fr h k =>
  obind (pEql (Tr.get .bad q0 fr) (.int .i64 (.ofNat 14))) fun v0 =>
  guardC v0 false h (fun k => k (Tr.get .bad q0 fr) h) fun v1 h2 =>
  guardC v0 false h2 (fun k => obind (pEql v1 (.int .i64 (.ofNat 16))) fun v => k v h2) fun v2 h3 =>
  obind (pPick v0 (.bool true) v2) fun v3 =>
  forceG v3 fun v => Tr.setK .bad v q59 fr fun f59 =>
  k f59 h3)
 (.cond 59 q59 (.seq (.reg fun _ fr h k =>
  forceG (.int .i64 (.ofNat 4)) fun v => Tr.setK .bad v q2 fr fun f2 =>
  k f2 h)
 .ret)
 (.seq (.reg fun _ fr h k =>
  obind (pGeq (Tr.get .bad q0 fr) (.int .i64 (.ofNat 18))) fun v0 =>
  guardC v0 true h (fun k => k (Tr.get .bad q0 fr) h) fun v1 h2 =>
  guardC v0 true h2 (fun k => obind (pLeq v1 (.int .i64 (.ofNat 21))) fun v => k v h2) fun v2 h3 =>
  obind (pPick v0 v2 (.bool false)) fun v3 =>
  guardC v3 false h3 (fun k => k (Tr.get .bad q0 fr) h3) fun v4 h5 =>
  guardC v3 false h5 (fun k => obind (pGeq v4 (.int .i64 (.ofNat 32))) fun v => k v h5) fun v5 h6 =>
  guardC v3 false h6 (fun k => k v5 h6) fun v6 h7 =>
  guardC v6 true h7 (fun k => k (Tr.get .bad q0 fr) h7) fun v7 h8 =>
  guardC v6 true h8 (fun k => obind (pLeq v7 (.int .i64 (.ofNat 35))) fun v => k v h8) fun v8 h9 =>
  guardC v3 false h9 (fun k => obind (pPick v6 v8 (.bool false)) fun v => k v h9) fun v9 h10 =>
  obind (pPick v3 (.bool true) v9) fun v10 =>
  forceG v10 fun v => Tr.setK .bad v q66 fr fun f66 =>
  k f66 h10)
 (.cond 66 q66 (.seq (.reg fun _ fr h k =>
  forceG (.int .i64 (.ofNat 3)) fun v => Tr.setK .bad v q2 fr fun f2 =>
  k f2 h)
 .ret)
 (.seq (.reg fun _ fr h k =>
  obind (pGeq (Tr.get .bad q0 fr) (.int .i64 (.ofNat 36))) fun v0 =>
  guardC v0 true h (fun k => k (Tr.get .bad q0 fr) h) fun v1 h2 =>
  guardC v0 true h2 (fun k => obind (pLeq v1 (.int .i64 (.ofNat 39))) fun v => k v h2) fun v2 h3 =>
  obind (pPick v0 v2 (.bool false)) fun v3 =>
  guardC v3 false h3 (fun k => k (Tr.get .bad q0 fr) h3) fun v4 h5 =>
  guardC v3 false h5 (fun k => obind (pEql v4 (.int .i64 (.ofNat 44))) fun v => k v h5) fun v5 h6 =>
  obind (pPick v3 (.bool true) v5) fun v6 =>
  guardC v6 false h6 (fun k => k (Tr.get .bad q0 fr) h6) fun v7 h8 =>
  guardC v6 false h8 (fun k => obind (pEql v7 (.int .i64 (.ofNat 45))) fun v => k v h8) fun v8 h9 =>
  obind (pPick v6 (.bool true) v8) fun v9 =>
  forceG v9 fun v => Tr.setK .bad v q81 fr fun f81 =>
  k f81 h9)
 (.cond 81 q81 (.seq (.reg fun _ fr h k =>
  forceG (.int .i64 (.ofNat 17)) fun v => Tr.setK .bad v q2 fr fun f2 =>
  k f2 h)
 .ret)
 (.seq (.reg fun _ fr h k =>
  obind (pEql (Tr.get .bad q0 fr) (.int .i64 (.ofNat 40))) fun v0 =>
  guardC v0 false h (fun k => k (Tr.get .bad q0 fr) h) fun v1 h2 =>
  guardC v0 false h2 (fun k => obind (pEql v1 (.int .i64 (.ofNat 41))) fun v => k v h2) fun v2 h3 =>
  obind (pPick v0 (.bool true) v2) fun v3 =>
  forceG v3 fun v => Tr.setK .bad v q96 fr fun f96 =>
  k f96 h3)
 (.cond 96 q96 (.seq (.reg fun _ fr h k =>
  forceG (.int .i64 (.ofNat 32)) fun v => Tr.setK .bad v q2 fr fun f2 =>
  k f2 h)
 .ret)
 (.seq (.reg fun _ fr h k =>
  obind (pEql (Tr.get .bad q0 fr) (.int .i64 (.ofNat 42))) fun v0 =>
  guardC v0 false h (fun k => k (Tr.get .bad q0 fr) h) fun v1 h2 =>
  guardC v0 false h2 (fun k => obind (pEql v1 (.int .i64 (.ofNat 43))) fun v => k v h2) fun v2 h3 =>
  obind (pPick v0 (.bool true) v2) fun v3 =>
  guardC v3 false h3 (fun k => k (Tr.get .bad q0 fr) h3) fun v4 h5 =>
  guardC v3 false h5 (fun k => obind (pGeq v4 (.int .i64 (.ofNat 46))) fun v => k v h5) fun v5 h6 =>
  guardC v3 false h6 (fun k => k v5 h6) fun v6 h7 =>
  guardC v6 true h7 (fun k => k (Tr.get .bad q0 fr) h7) fun v7 h8 =>
  guardC v6 true h8 (fun k => obind (pLeq v7 (.int .i64 (.ofNat 52))) fun v => k v h8) fun v8 h9 =>
  guardC v3 false h9 (fun k => obind (pPick v6 v8 (.bool false)) fun v => k v h9) fun v9 h10 =>
  obind (pPick v3 (.bool true) v9) fun v10 =>
  guardC v10 false h10 (fun k => k (Tr.get .bad q0 fr) h10) fun v11 h12 =>
  guardC v10 false h12 (fun k => obind (pGeq v11 (.int .i64 (.ofNat 66))) fun v => k v h12) fun v12 h13 =>
  guardC v10 false h13 (fun k => k v12 h13) fun v13 h14 =>
  guardC v13 true h14 (fun k => k (Tr.get .bad q0 fr) h14) fun v14 h15 =>
  guardC v13 true h15 (fun k => obind (pLeq v14 (.int .i64 (.ofNat 75))) fun v => k v h15) fun v15 h16 =>
  guardC v10 false h16 (fun k => obind (pPick v13 v15 (.bool false)) fun v => k v h16) fun v16 h17 =>
  obind (pPick v10 (.bool true) v16) fun v17 =>
  forceG v17 fun v => Tr.setK .bad v q103 fr fun f103 =>
  k f103 h17)
 (.cond 103 q103 (.seq (.reg fun _ fr h k =>
  forceG (.int .i64 (.ofNat 19)) fun v => Tr.setK .bad v q2 fr fun f2 =>
  k f2 h)
 .ret)
 (.seq (.reg fun _ fr h k =>
  obind (pEql (Tr.get .bad q0 fr) (.int .i64 (.ofNat 53))) fun v0 =>
  forceG v0 fun v => Tr.setK .bad v q126 fr fun f126 =>
  k f126 h)
 (.cond 126 q126 (.seq (.reg fun _ fr h k =>
  forceG (.int .i64 (.ofNat 18)) fun v => Tr.setK .bad v q2 fr fun f2 =>
  k f2 h)
 .ret)
 (.seq (.reg fun _ fr h k =>
  obind (pEql (Tr.get .bad q0 fr) (.int .i64 (.ofNat 54))) fun v0 =>
  guardC v0 false h (fun k => k (Tr.get .bad q0 fr) h) fun v1 h2 =>
  guardC v0 false h2 (fun k => obind (pEql v1 (.int .i64 (.ofNat 55))) fun v => k v h2) fun v2 h3 =>
  obind (pPick v0 (.bool true) v2) fun v3 =>
  forceG v3 fun v => Tr.setK .bad v q129 fr fun f129 =>
  k f129 h3)
 (.cond 129 q129 (.seq (.reg fun _ fr h k =>
  forceG (.int .i64 (.ofNat 6)) fun v => Tr.setK .bad v q2 fr fun f2 =>
  k f2 h)
 .ret)
 .skip)))))))))))))))))))))))
 (.seq (.reg fun _ fr h k =>
  forceG (.int .i64 (.ofNat 0)) fun v => Tr.setK .bad v q2 fr fun f2 =>
  k f2 h)
 .ret))), resF [.t 2]⟩
theorem g184_ok : Comp Tryz.prog Tryz.f184 1 [2, 3, 10, 37, 48, 59, 66, 81, 96, 103, 126, 129] g184 := ⟨_, [.t 2], rfl, by kernel_rfl, by decide, by kernel_rfl, by kernel_rfl, rfl, rfl⟩
/-- pianola/decode.special -/
def g185 : GFunc := ⟨1, (.seq (.reg fun _ fr h k =>
  forceG (.int .i64 (.ofNat 0)) fun v => Tr.setK .bad v q2 fr fun f2 =>
  k f2 h)
 (.seq (.reg fun _ fr h k =>
  obind (pConv .i64 (Tr.get .bad q0 fr)) fun v0 =>
  forceG v0 fun v => Tr.setK .bad v q3 fr fun f3 =>
  k f3 h)
 (.seq (.block 0 (.seq (.reg fun _ fr h k =>
  obind (pEql (Tr.get .bad q3 fr) (.int .i64 (.ofNat 0))) fun v0 =>
  forceG v0 fun v => Tr.setK .bad v q6 fr fun f6 =>
  k f6 h)
 (.cond 6 q6 (.seq (.reg fun _ fr h k =>
  forceG (.int .i64 (.ofNat 1)) fun v => Tr.setK .bad v q2 fr fun f2 =>
  k f2 h)
 .ret)
 (.seq (.reg fun _ fr h k =>
  obind (pEql (Tr.get .bad q3 fr) (.int .i64 (.ofNat 2))) fun v0 =>
  guardC v0 false h (fun k => k (Tr.get .bad q3 fr) h) fun v1 h2 =>
  guardC v0 false h2 (fun k => obind (pEql v1 (.int .i64 (.ofNat 3))) fun v => k v h2) fun v2 h3 =>
  obind (pPick v0 (.bool true) v2) fun v3 =>
  forceG v3 fun v => Tr.setK .bad v q9 fr fun f9 =>
  k f9 h3)
 (.cond 9 q9 (.seq (.reg fun _ fr h k =>
  obind (pAdd (.int .i64 (.ofNat 2)) (Tr.get .bad q3 fr)) fun v0 =>
  obind (pSub v0 (.int .i64 (.ofNat 2))) fun v1 =>
  forceG v1 fun v => Tr.setK .bad v q2 fr fun f2 =>
  k f2 h)
 .ret)
 (.seq (.reg fun _ fr h k =>
  obind (pEql (Tr.get .bad q3 fr) (.int .i64 (.ofNat 4))) fun v0 =>
  forceG v0 fun v => Tr.setK .bad v q19 fr fun f19 =>
  k f19 h)
 (.cond 19 q19 (.seq (.reg fun _ fr h k =>
  forceG (.int .i64 (.ofNat 4)) fun v => Tr.setK .bad v q2 fr fun f2 =>
  k f2 h)
 .ret)
 (.seq (.reg fun _ fr h k =>
  obind (pEql (Tr.get .bad q3 fr) (.int .i64 (.ofNat 6))) fun v0 =>
  guardC v0 false h (fun k => k (Tr.get .bad q3 fr) h) fun v1 h2 =>
  guardC v0 false h2 (fun k => obind (pEql v1 (.int .i64 (.ofNat 7))) fun v => k v h2) fun v2 h3 =>
  obind (pPick v0 (.bool true) v2) fun v3 =>
  forceG v3 fun v => Tr.setK .bad v q22 fr fun f22 =>
  k f22 h3)
 (.cond 22 q22 (.seq (.reg fun _ fr h k =>
  obind (pAdd (.int .i64 (.ofNat 5)) (Tr.get .bad q3 fr)) fun v0 =>
  obind (pSub v0 (.int .i64 (.ofNat 6))) fun v1 =>
  forceG v1 fun v => Tr.setK .bad v q2 fr fun f2 =>
  k f2 h)
 .ret)
 (.seq (.reg fun _ fr h k =>
  obind (pGeq (Tr.get .bad q3 fr) (.int .i64 (.ofNat 8))) fun v0 =>
  guardC v0 true h (fun k => k (Tr.get .bad q3 fr) h) fun v1 h2 =>
  guardC v0 true h2 (fun k => obind (pLeq v1 (.int .i64 (.ofNat 13))) fun v => k v h2) fun v2 h3 =>
  obind (pPick v0 v2 (.bool false)) fun v3 =>
  forceG v3 fun v => Tr.setK .bad v q32 fr fun f32 =>
  k f32 h3)
 (.cond 32 q32 (.seq (.reg fun _ fr h k =>
  obind (pAdd (.int .i64 (.ofNat 7)) (Tr.get .bad q3 fr)) fun v0 =>
  obind (pSub v0 (.int .i64 (.ofNat 8))) fun v1 =>
  forceG v1 fun v => Tr.setK .bad v q2 fr fun f2 =>
  k f2 h)
 .ret)
 (.seq (.reg fun _ fr h k =>
  obind (pEql (Tr.get .bad q3 fr) (.int .i64 (.ofNat 15))) fun v0 =>
  forceG v0 fun v => Tr.setK .bad v q42 fr fun f42 =>
  k f42 h)
 (.cond 42 q42 (.seq (.reg fun _ fr h k =>
  forceG (.int .i64 (.ofNat 13)) fun v => Tr.setK .bad v q2 fr fun f2 =>
  k f2 h)
 .ret)
 (.seq (.reg fun _ fr h k =>
  obind (pGeq (Tr.get .bad q3 fr) (.int .i64 (.ofNat 16))) fun v0 =>
  guardC v0 true h (fun k => k (Tr.get .bad q3 fr) h) fun v1 h2 =>
  guardC v0 true h2 (fun k => obind (pLeq v1 (.int .i64 (.ofNat 19))) fun v => k v h2) fun v2 h3 =>
  obind (pPick v0 v2 (.bool false)) fun v3 =>
  forceG v3 fun v => Tr.setK .bad v q45 fr fun f45 =>
  k f45 h3)
 (.cond 45 q45 (.seq (.reg fun _ fr h k =>
  obind (pAdd (.int .i64 (.ofNat 14)) (Tr.get .bad q3 fr)) fun v0 =>
  obind (pSub v0 (.int .i64 (.ofNat 16))) fun v1 =>
  forceG v1 fun v => Tr.setK .bad v q2 fr fun f2 =>
  k f2 h)
 .ret)
 (.seq (.reg fun _ fr h k =>
  obind (pGeq (Tr.get .bad q3 fr) (.int .i64 (.ofNat 24))) fun v0 =>
  guardC v0 true h (fun k => k (Tr.get .bad q3 fr) h) fun v1 h2 =>
  guardC v0 true h2 (fun k => obind (pLeq v1 (.int .i64 (.ofNat 27))) fun v => k v h2) fun v2 h3 =>
  obind (pPick v0 v2 (.bool false)) fun v3 =>
  forceG v3 fun v => Tr.setK .bad v q55 fr fun f55 =>
  k f55 h3)
 (.cond 55 q55 (.seq (.reg fun _ fr h k =>
  obind (pAdd (.int .i64 (.ofNat 18)) (Tr.get .bad q3 fr)) fun v0 =>
  obind (pSub v0 (.int .i64 (.ofNat 24))) fun v1 =>
  forceG v1 fun v => Tr.setK .bad v q2 fr fun f2 =>
  k f2 h)
 .ret)
 (.seq (.reg fun _ fr h k =>
  obind (pGeq (Tr.get .bad q3 fr) (.int .i64 (.ofNat 32))) fun v0 =>
  guardC v0 true h (fun k => k (Tr.get .bad q3 fr) h) fun v1 h2 =>
  guardC v0 true h2 (fun k => obind (pLeq v1 (.int .i64 (.ofNat 39))) fun v => k v h2) fun v2 h3 =>
  obind (pPick v0 v2 (.bool false)) fun v3 =>
  forceG v3 fun v => Tr.setK .bad v q65 fr fun f65 =>
  k f65 h3)
 (.cond 65 q65 (.seq (.reg fun _ fr h k =>
  obind (pAdd (.int .i64 (.ofNat 22)) (Tr.get .bad q3 fr)) fun v0 =>
  obind (pSub v0 (.int .i64 (.ofNat 32))) fun v1 =>
  forceG v1 fun v => Tr.setK .bad v q2 fr fun f2 =>
  k f2 h)
 .ret)
 (.seq (.reg fun _ fr h k =>
  obind (pEql (Tr.get .bad q3 fr) (.int .i64 (.ofNat 42))) fun v0 =>
  guardC v0 false h (fun k => k (Tr.get .bad q3 fr) h) fun v1 h2 =>
  guardC v0 false h2 (fun k => obind (pEql v1 (.int .i64 (.ofNat 43))) fun v => k v h2) fun v2 h3 =>
  obind (pPick v0 (.bool true) v2) fun v3 =>
  forceG v3 fun v => Tr.setK .bad v q75 fr fun f75 =>
  k f75 h3)
 (.cond 75 q75 (.seq (.reg fun _ fr h k =>
  obind (pAdd (.int .i64 (.ofNat 30)) (Tr.get .bad q3 fr)) fun v0 =>
  obind (pSub v0 (.int .i64 (.ofNat 42))) fun v1 =>
  forceG v1 fun v => Tr.setK .bad v q2 fr fun f2 =>
  k f2 h)
 .ret)
 (.seq (.reg fun _ fr h k =>
  obind (pGeq (Tr.get .bad q3 fr) (.int .i64 (.ofNat 48))) fun v0 =>
  guardC v0 true h (fun k => k (Tr.get .bad q3 fr) h) fun v1 h2 =>
  guardC v0 true h2 (fun k => obind (pLeq v1 (.int .i64 (.ofNat 54))) fun v => k v h2) fun v2 h3 =>
  obind (pPick v0 v2 (.bool false)) fun v3 =>
  guardC v3 true h3 (fun k => k (Tr.get .bad q3 fr) h3) fun v4 h5 =>
  guardC v3 true h5 (fun k => obind (pRem v4 (.int .i64 (.ofNat 2))) fun v => k v h5) fun v5 h6 =>
  guardC v3 true h6 (fun k => obind (pEql v5 (.int .i64 (.ofNat 0))) fun v => k v h6) fun v6 h7 =>
  obind (pPick v3 v6 (.bool false)) fun v7 =>
  forceG v7 fun v => Tr.setK .bad v q85 fr fun f85 =>
  k f85 h7)
 (.cond 85 q85 (.seq (.reg fun _ fr h k =>
  obind (pSub (Tr.get .bad q3 fr) (.int .i64 (.ofNat 48))) fun v0 =>
  obind (pQuo v0 (.int .i64 (.ofNat 2))) fun v1 =>
  obind (pAdd (.int .i64 (.ofNat 32)) v1) fun v2 =>
  forceG v2 fun v => Tr.setK .bad v q2 fr fun f2 =>
  k f2 h)
 .ret)
 .skip)))))))))))))))))))))))
 (.seq (.reg fun _ fr h k =>
  forceG (.int .i64 (.ofNat 0)) fun v => Tr.setK .bad v q2 fr fun f2 =>
  k f2 h)
 .ret)))), resF [.t 2]⟩
theorem g185_ok : Comp Tryz.prog Tryz.f185 1 [2, 3, 6, 9, 19, 22, 32, 42, 45, 55, 65, 75, 85] g185 := ⟨_, [.t 2], rfl, by kernel_rfl, by decide, by kernel_rfl, by kernel_rfl, rfl, rfl⟩
/-- pianola/decode.regimm -/
def g186 : GFunc := ⟨1, (.seq (.reg fun _ fr h k =>
  forceG (.int .i64 (.ofNat 0)) fun v => Tr.setK .bad v q2 fr fun f2 =>
  k f2 h)
 (.seq (.seq (.reg fun _ fr h k =>
  forceG (Tr.get .bad q0 fr) fun v => Tr.setK .bad v q3 fr fun f3 =>
  k f3 h)
 (.block 0 (.seq (.seq (.reg fun _ fr h k =>
  obind (pEql (Tr.get .bad q3 fr) (.int .u32 (.ofNat 0))) fun v0 =>
  forceG v0 fun v => Tr.setK .bad v q4 fr fun f4 =>
  k f4 h)
 (.cond 4 q4 .skip
 (.reg fun _ fr h k =>
  obind (pEql (Tr.get .bad q3 fr) (.int .u32 (.ofNat 1))) fun v0 =>
  forceG v0 fun v => Tr.setK .bad v q4 fr fun f4 =>
  k f4 h)))
 (.cond 4 q4 (.seq (.reg fun _ fr h k =>
  obind (pConv .i64 (Tr.get .bad q0 fr)) fun v0 =>
  obind (pAdd (.int .i64 (.ofNat 36)) v0) fun v1 =>
  forceG v1 fun v => Tr.setK .bad v q2 fr fun f2 =>
  k f2 h)
 .ret)
 (.seq (.seq (.reg fun _ fr h k =>
  obind (pEql (Tr.get .bad q3 fr) (.int .u32 (.ofNat 16))) fun v0 =>
  forceG v0 fun v => Tr.setK .bad v q10 fr fun f10 =>
  k f10 h)
 (.cond 10 q10 .skip
 (.reg fun _ fr h k =>
  obind (pEql (Tr.get .bad q3 fr) (.int .u32 (.ofNat 17))) fun v0 =>
  forceG v0 fun v => Tr.setK .bad v q10 fr fun f10 =>
  k f10 h)))
 (.cond 10 q10 (.seq (.reg fun _ fr h k =>
  obind (pConv .i64 (Tr.get .bad q0 fr)) fun v0 =>
  obind (pAdd (.int .i64 (.ofNat 38)) v0) fun v1 =>
  obind (pSub v1 (.int .i64 (.ofNat 16))) fun v2 =>
  forceG v2 fun v => Tr.setK .bad v q2 fr fun f2 =>
  k f2 h)
 .ret)
 .skip))))))
 (.seq (.reg fun _ fr h k =>
  forceG (.int .i64 (.ofNat 0)) fun v => Tr.setK .bad v q2 fr fun f2 =>
  k f2 h)
 .ret))), resF [.t 2]⟩
theorem g186_ok : Comp Tryz.prog Tryz.f186 1 [2, 3, 4, 10] g186 := ⟨_, [.t 2], rfl, by kernel_rfl, by decide, by kernel_rfl, by kernel_rfl, rfl, rfl⟩
/-- pianola/decode.cop0 -/
def g187 : GFunc := ⟨1, (.seq (.reg fun _ fr h k =>
  forceG (.int .i64 (.ofNat 0)) fun v => Tr.setK .bad v q2 fr fun f2 =>
  k f2 h)
 (.seq (.seq (.reg fun _ fr h k =>
  obind (pShr (Tr.get .bad q0 fr) (.int .u64 (.ofNat 21))) fun v0 =>
  obind (pAnd v0 (.int .u32 (.ofNat 31))) fun v1 =>
  forceG v1 fun v => Tr.setK .bad v q5 fr fun f5 =>
  k f5 h)
 (.block 0 (.seq (.reg fun _ fr h k =>
  obind (pEql (Tr.get .bad q5 fr) (.int .u32 (.ofNat 0))) fun v0 =>
  forceG v0 fun v => Tr.setK .bad v q6 fr fun f6 =>
  k f6 h)
 (.cond 6 q6 (.seq (.reg fun _ fr h k =>
  forceG (.int .i64 (.ofNat 54)) fun v => Tr.setK .bad v q2 fr fun f2 =>
  k f2 h)
 .ret)
 (.seq (.reg fun _ fr h k =>
  obind (pEql (Tr.get .bad q5 fr) (.int .u32 (.ofNat 4))) fun v0 =>
  forceG v0 fun v => Tr.setK .bad v q8 fr fun f8 =>
  k f8 h)
 (.cond 8 q8 (.seq (.reg fun _ fr h k =>
  forceG (.int .i64 (.ofNat 55)) fun v => Tr.setK .bad v q2 fr fun f2 =>
  k f2 h)
 .ret)
 (.seq (.reg fun _ fr h k =>
  obind (pEql (Tr.get .bad q5 fr) (.int .u32 (.ofNat 16))) fun v0 =>
  forceG v0 fun v => Tr.setK .bad v q10 fr fun f10 =>
  k f10 h)
 (.cond 10 q10 (.seq (.reg fun call fr h k =>
  obind (pAnd (Tr.get .bad q0 fr) (.int .u32 (.ofNat 63))) fun v0 =>
  call q213 [v0] h fun v1 h2 =>
  forceG v1 fun v => Tr.setK .bad v q2 fr fun f2 =>
  k f2 h2)
 .ret)
 .skip))))))))
 (.seq (.reg fun _ fr h k =>
  forceG (.int .i64 (.ofNat 0)) fun v => Tr.setK .bad v q2 fr fun f2 =>
  k f2 h)
 .ret))), resF [.t 2]⟩
theorem g187_ok : Comp Tryz.prog Tryz.f187 1 [2, 5, 6, 8, 10] g187 := ⟨_, [.t 2], rfl, by kernel_rfl, by decide, by kernel_rfl, by kernel_rfl, rfl, rfl⟩
/-- pianola/decode.special2 -/
def g188 : GFunc := ⟨1, (.seq (.reg fun _ fr h k =>
  forceG (.int .i64 (.ofNat 0)) fun v => Tr.setK .bad v q2 fr fun f2 =>
  k f2 h)
 (.seq (.seq (.reg fun _ fr h k =>
  forceG (Tr.get .bad q0 fr) fun v => Tr.setK .bad v q3 fr fun f3 =>
  k f3 h)
 (.block 0 (.seq (.reg fun _ fr h k =>
  obind (pEql (Tr.get .bad q3 fr) (.int .u32 (.ofNat 2))) fun v0 =>
  forceG v0 fun v => Tr.setK .bad v q4 fr fun f4 =>
  k f4 h)
 (.cond 4 q4 (.seq (.reg fun _ fr h k =>
  forceG (.int .i64 (.ofNat 63)) fun v => Tr.setK .bad v q2 fr fun f2 =>
  k f2 h)
 .ret)
 (.seq (.seq (.reg fun _ fr h k =>
  obind (pEql (Tr.get .bad q3 fr) (.int .u32 (.ofNat 32))) fun v0 =>
  forceG v0 fun v => Tr.setK .bad v q6 fr fun f6 =>
  k f6 h)
 (.cond 6 q6 .skip
 (.reg fun _ fr h k =>
  obind (pEql (Tr.get .bad q3 fr) (.int .u32 (.ofNat 33))) fun v0 =>
  forceG v0 fun v => Tr.setK .bad v q6 fr fun f6 =>
  k f6 h)))
 (.cond 6 q6 (.seq (.reg fun _ fr h k =>
  obind (pConv .i64 (Tr.get .bad q0 fr)) fun v0 =>
  obind (pAdd (.int .i64 (.ofNat 64)) v0) fun v1 =>
  obind (pSub v1 (.int .i64 (.ofNat 32))) fun v2 =>
  forceG v2 fun v => Tr.setK .bad v q2 fr fun f2 =>
  k f2 h)
 .ret)
 .skip))))))
 (.seq (.reg fun _ fr h k =>
  forceG (.int .i64 (.ofNat 0)) fun v => Tr.setK .bad v q2 fr fun f2 =>
  k f2 h)
 .ret))), resF [.t 2]⟩
theorem g188_ok : Comp Tryz.prog Tryz.f188 1 [2, 3, 4, 6] g188 := ⟨_, [.t 2], rfl, by kernel_rfl, by decide, by kernel_rfl, by kernel_rfl, rfl, rfl⟩
/-- pianola/decode.major -/
def g189 : GFunc := ⟨1, (.seq (.reg fun _ fr h k =>
  forceG (.int .i64 (.ofNat 0)) fun v => Tr.setK .bad v q2 fr fun f2 =>
  k f2 h)
 (.seq (.reg fun _ fr h k =>
  obind (pConv .i64 (Tr.get .bad q0 fr)) fun v0 =>
  forceG v0 fun v => Tr.setK .bad v q3 fr fun f3 =>
  k f3 h)
 (.seq (.block 0 (.seq (.reg fun _ fr h k =>
  obind (pGeq (Tr.get .bad q3 fr) (.int .i64 (.ofNat 2))) fun v0 =>
  guardC v0 true h (fun k => k (Tr.get .bad q3 fr) h) fun v1 h2 =>
  guardC v0 true h2 (fun k => obind (pLeq v1 (.int .i64 (.ofNat 7))) fun v => k v h2) fun v2 h3 =>
  obind (pPick v0 v2 (.bool false)) fun v3 =>
  forceG v3 fun v => Tr.setK .bad v q6 fr fun f6 =>
  k f6 h3)
 (.cond 6 q6 (.seq (.reg fun _ fr h k =>
  obind (pAdd (.int .i64 (.ofNat 40)) (Tr.get .bad q3 fr)) fun v0 =>
  obind (pSub v0 (.int .i64 (.ofNat 2))) fun v1 =>
  forceG v1 fun v => Tr.setK .bad v q2 fr fun f2 =>
  k f2 h)
 .ret)
 (.seq (.reg fun _ fr h k =>
  obind (pGeq (Tr.get .bad q3 fr) (.int .i64 (.ofNat 8))) fun v0 =>
  guardC v0 true h (fun k => k (Tr.get .bad q3 fr) h) fun v1 h2 =>
  guardC v0 true h2 (fun k => obind (pLeq v1 (.int .i64 (.ofNat 15))) fun v => k v h2) fun v2 h3 =>
  obind (pPick v0 v2 (.bool false)) fun v3 =>
  forceG v3 fun v => Tr.setK .bad v q16 fr fun f16 =>
  k f16 h3)
 (.cond 16 q16 (.seq (.reg fun _ fr h k =>
  obind (pAdd (.int .i64 (.ofNat 46)) (Tr.get .bad q3 fr)) fun v0 =>
  obind (pSub v0 (.int .i64 (.ofNat 8))) fun v1 =>
  forceG v1 fun v => Tr.setK .bad v q2 fr fun f2 =>
  k f2 h)
 .ret)
 (.seq (.reg fun _ fr h k =>
  obind (pEql (Tr.get .bad q3 fr) (.int .i64 (.ofNat 17))) fun v0 =>
  forceG v0 fun v => Tr.setK .bad v q26 fr fun f26 =>
  k f26 h)
 (.cond 26 q26 (.seq (.reg fun _ fr h k =>
  forceG (.int .i64 (.ofNat 62)) fun v => Tr.setK .bad v q2 fr fun f2 =>
  k f2 h)
 .ret)
 (.seq (.reg fun _ fr h k =>
  obind (pEql (Tr.get .bad q3 fr) (.int .i64 (.ofNat 32))) fun v0 =>
  guardC v0 false h (fun k => k (Tr.get .bad q3 fr) h) fun v1 h2 =>
  guardC v0 false h2 (fun k => obind (pEql v1 (.int .i64 (.ofNat 33))) fun v => k v h2) fun v2 h3 =>
  obind (pPick v0 (.bool true) v2) fun v3 =>
  forceG v3 fun v => Tr.setK .bad v q29 fr fun f29 =>
  k f29 h3)
 (.cond 29 q29 (.seq (.reg fun _ fr h k =>
  obind (pAdd (.int .i64 (.ofNat 66)) (Tr.get .bad q3 fr)) fun v0 =>
  obind (pSub v0 (.int .i64 (.ofNat 32))) fun v1 =>
  forceG v1 fun v => Tr.setK .bad v q2 fr fun f2 =>
  k f2 h)
 .ret)
 (.seq (.reg fun _ fr h k =>
  obind (pGeq (Tr.get .bad q3 fr) (.int .i64 (.ofNat 35))) fun v0 =>
  guardC v0 true h (fun k => k (Tr.get .bad q3 fr) h) fun v1 h2 =>
  guardC v0 true h2 (fun k => obind (pLeq v1 (.int .i64 (.ofNat 37))) fun v => k v h2) fun v2 h3 =>
  obind (pPick v0 v2 (.bool false)) fun v3 =>
  forceG v3 fun v => Tr.setK .bad v q39 fr fun f39 =>
  k f39 h3)
 (.cond 39 q39 (.seq (.reg fun _ fr h k =>
  obind (pAdd (.int .i64 (.ofNat 68)) (Tr.get .bad q3 fr)) fun v0 =>
  obind (pSub v0 (.int .i64 (.ofNat 35))) fun v1 =>
  forceG v1 fun v => Tr.setK .bad v q2 fr fun f2 =>
  k f2 h)
 .ret)
 (.seq (.reg fun _ fr h k =>
  obind (pEql (Tr.get .bad q3 fr) (.int .i64 (.ofNat 40))) fun v0 =>
  guardC v0 false h (fun k => k (Tr.get .bad q3 fr) h) fun v1 h2 =>
  guardC v0 false h2 (fun k => obind (pEql v1 (.int .i64 (.ofNat 41))) fun v => k v h2) fun v2 h3 =>
  obind (pPick v0 (.bool true) v2) fun v3 =>
  forceG v3 fun v => Tr.setK .bad v q49 fr fun f49 =>
  k f49 h3)
 (.cond 49 q49 (.seq (.reg fun _ fr h k =>
  obind (pAdd (.int .i64 (.ofNat 71)) (Tr.get .bad q3 fr)) fun v0 =>
  obind (pSub v0 (.int .i64 (.ofNat 40))) fun v1 =>
  forceG v1 fun v => Tr.setK .bad v q2 fr fun f2 =>
  k f2 h)
 .ret)
 (.seq (.reg fun _ fr h k =>
  obind (pEql (Tr.get .bad q3 fr) (.int .i64 (.ofNat 43))) fun v0 =>
  forceG v0 fun v => Tr.setK .bad v q59 fr fun f59 =>
  k f59 h)
 (.cond 59 q59 (.seq (.reg fun _ fr h k =>
  forceG (.int .i64 (.ofNat 73)) fun v => Tr.setK .bad v q2 fr fun f2 =>
  k f2 h)
 .ret)
 (.seq (.reg fun _ fr h k =>
  obind (pEql (Tr.get .bad q3 fr) (.int .i64 (.ofNat 47))) fun v0 =>
  forceG v0 fun v => Tr.setK .bad v q62 fr fun f62 =>
  k f62 h)
 (.cond 62 q62 (.seq (.reg fun _ fr h k =>
  forceG (.int .i64 (.ofNat 76)) fun v => Tr.setK .bad v q2 fr fun f2 =>
  k f2 h)
 .ret)
 (.seq (.reg fun _ fr h k =>
  obind (pEql (Tr.get .bad q3 fr) (.int .i64 (.ofNat 48))) fun v0 =>
  forceG v0 fun v => Tr.setK .bad v q65 fr fun f65 =>
  k f65 h)
 (.cond 65 q65 (.seq (.reg fun _ fr h k =>
  forceG (.int .i64 (.ofNat 74)) fun v => Tr.setK .bad v q2 fr fun f2 =>
  k f2 h)
 .ret)
 (.seq (.reg fun _ fr h k =>
  obind (pEql (Tr.get .bad q3 fr) (.int .i64 (.ofNat 51))) fun v0 =>
  forceG v0 fun v => Tr.setK .bad v q68 fr fun f68 =>
  k f68 h)
 (.cond 68 q68 (.seq (.reg fun _ fr h k =>
  forceG (.int .i64 (.ofNat 77)) fun v => Tr.setK .bad v q2 fr fun f2 =>
  k f2 h)
 .ret)
 (.seq (.reg fun _ fr h k =>
  obind (pEql (Tr.get .bad q3 fr) (.int .i64 (.ofNat 56))) fun v0 =>
  forceG v0 fun v => Tr.setK .bad v q71 fr fun f71 =>
  k f71 h)
 (.cond 71 q71 (.seq (.reg fun _ fr h k =>
  forceG (.int .i64 (.ofNat 75)) fun v => Tr.setK .bad v q2 fr fun f2 =>
  k f2 h)
 .ret)
 .skip)))))))))))))))))))))))
 (.seq (.reg fun _ fr h k =>
  forceG (.int .i64 (.ofNat 0)) fun v => Tr.setK .bad v q2 fr fun f2 =>
  k f2 h)
 .ret)))), resF [.t 2]⟩
theorem g189_ok : Comp Tryz.prog Tryz.f189 1 [2, 3, 6, 16, 26, 29, 39, 49, 59, 62, 65, 68, 71] g189 := ⟨_, [.t 2], rfl, by kernel_rfl, by decide, by kernel_rfl, by kernel_rfl, rfl, rfl⟩
/-- pianola/opt.Dead -/
def g190 : GFunc := ⟨1, (.seq (.reg fun _ fr h k =>
  forceG .nils fun v => Tr.setK .bad v q2 fr fun f2 =>
  k f2 h)
 (.seq (.seq (.reg fun call fr h k =>
  call q214 [(Tr.get .bad q0 fr)] h fun v0 h1 =>
  obind (pNot v0) fun v1 =>
  forceG v1 fun v => Tr.setK .bad v q15 fr fun f15 =>
  k f15 h1)
 (.cond 15 q15 (.seq (.reg fun _ fr h k =>
  forceG .nils fun v => Tr.setK .bad v q2 fr fun f2 =>
  k f2 h)
 .ret)
 .skip))
 (.seq (.reg fun _ fr h k =>
  obind2 (nAlloc [.bool false, .bool false, .bool false, .bool false, .bool false, .bool false, .bool false, .bool false, .bool false, .bool false, .bool false, .bool false, .bool false, .bool false, .bool false, .bool false, .bool false, .bool false, .bool false, .bool false, .bool false, .bool false, .bool false, .bool false, .bool false, .bool false, .bool false, .bool false, .bool false, .bool false, .bool false, .bool false, .bool false, .bool false, .bool false, .bool false, .bool false, .bool false, .bool false, .bool false] h) fun v0 h1 =>
  forceG v0 fun v => Tr.setK .bad v q3 fr fun f3 =>
  k f3 h1)
 (.seq (.seq (.reg fun _ fr h k =>
  forceG (.int .i64 (.ofNat 0)) fun v => Tr.setK .bad v q16 fr fun f16 =>
  k f16 h)
 (.block 0 (.loop (.seq (.reg fun _ fr h k =>
  obind (pLss (Tr.get .bad q16 fr) (.int .i64 (.ofNat 34))) fun v0 =>
  forceG v0 fun v => Tr.setK .bad v q17 fr fun f17 =>
  k f17 h)
 (.seq (.cond 17 q17 .skip
 (.exit 0))
 (.seq (.block 1 (.seq (.reg fun _ fr h k =>
  forceG (Tr.get .bad q16 fr) fun v => Tr.setK .bad v q4 fr fun f4 =>
  k f4 h)
 (.reg fun _ fr h k =>
  obind (pIdxA 40 1 (Tr.get .bad q3 fr) (Tr.get .bad q4 fr)) fun v0 =>
  obind (wSt1 v0 (.bool true) h) fun h2 =>
  k fr h2)))
 (.reg fun _ fr h k =>
  obind (pAdd (Tr.get .bad q16 fr) (.int .i64 (.ofNat 1))) fun v0 =>
  forceG v0 fun v => Tr.setK .bad v q16 fr fun f16 =>
  k f16 h)))))))
 (.seq (.reg fun _ fr h k =>
  forceG .nils fun v => Tr.setK .bad v q5 fr fun f5 =>
  k f5 h)
 (.seq (.seq (.reg fun _ fr h k =>
  obind (pLenS (Tr.get .bad q0 fr)) fun v0 =>
  obind (pSub v0 (.int .i64 (.ofNat 1))) fun v1 =>
  forceG v1 fun v => Tr.setK .bad v q6 fr fun f6 =>
  k f6 h)
 (.block 2 (.loop (.seq (.seq (.reg fun _ fr h k =>
  obind (pGeq (Tr.get .bad q6 fr) (.int .i64 (.ofNat 0))) fun v0 =>
  forceG v0 fun v => Tr.setK .bad v q26 fr fun f26 =>
  k f26 h)
 (.cond 26 q26 .skip
 (.exit 2)))
 (.seq (.block 3 (.seq (.reg fun _ fr h k =>
  obind (pIdxS 5 (Tr.get .bad q0 fr) (Tr.get .bad q6 fr)) fun v0 =>
  obind (rLdN 5 v0 h) fun v1 =>
  obind2 (nAlloc [.int .i64 (.ofNat 0), .int .i64 (.ofNat 0), .int .i64 (.ofNat 0), .int .i64 (.ofNat 0), .int .u32 (.ofNat 0)] h) fun v2 h3 =>
  obind (wStN 5 v2 v1 h3) fun h4 =>
  forceG v2 fun v => Tr.setK .bad v q7 fr fun f7 =>
  k f7 h4)
 (.seq (.reg fun call fr h k =>
  obind (rLdN 5 (Tr.get .bad q7 fr) h) fun v0 =>
  call q215 [v0] h fun v1 h2 =>
  forceG v1 fun v => Tr.setK .bad v q8 fr fun f8 =>
  k f8 h2)
 (.seq (.seq (.reg fun call fr h k =>
  obind (pFn q217 [(Tr.get .bad q3 fr)]) fun v0 =>
  call q216 [(Tr.get .bad q8 fr), v0] h fun v1 h2 =>
  obind (pNot v1) fun v2 =>
  forceG v2 fun v => Tr.setK .bad v q38 fr fun f38 =>
  k f38 h2)
 (.cond 38 q38 (.exit 3)
 .skip))
 (.seq (.seq (.reg fun _ fr h k =>
  obind (pLenS (Tr.get .bad q8 fr)) fun v0 =>
  forceG (Tr.get .bad q8 fr) fun v => Tr.setK .bad v q39 fr fun f39 =>
  forceG v0 fun v => Tr.setK .bad v q40 f39 fun f40 =>
  forceG (.int .i64 (.ofNat 0)) fun v => Tr.setK .bad v q41 f40 fun f41 =>
  k f41 h)
 (.block 4 (.loop (.seq (.reg fun _ fr h k =>
  obind (pLss (Tr.get .bad q41 fr) (Tr.get .bad q40 fr)) fun v0 =>
  forceG v0 fun v => Tr.setK .bad v q42 fr fun f42 =>
  k f42 h)
 (.seq (.cond 42 q42 .skip
 (.exit 4))
 (.seq (.block 5 (.seq (.reg fun _ fr h k =>
  obind (pIdxS 1 (Tr.get .bad q39 fr) (Tr.get .bad q41 fr)) fun v0 =>
  obind (rLd1 v0 h) fun v1 =>
  forceG v1 fun v => Tr.setK .bad v q10 fr fun f10 =>
  k f10 h)
 (.reg fun call fr h k =>
  obind (pIdxA 40 1 (Tr.get .bad q3 fr) (Tr.get .bad q10 fr)) fun v0 =>
  obind (rLd1 v0 h) fun v1 =>
  guardC v1 true h (fun k => obind (rLdN 5 (Tr.get .bad q7 fr) h) fun v => k v h) fun v2 h3 =>
  guardC v1 true h3 (fun k => call q218 [v2] h3 k) fun v3 h4 =>
  guardC v1 true h4 (fun k => obind (pNot v3) fun v => k v h4) fun v4 h5 =>
  obind (pPick v1 v4 (.bool false)) fun v5 =>
  obind (pIdxA 40 1 (Tr.get .bad q3 fr) (Tr.get .bad q10 fr)) fun v6 =>
  obind (wSt1 v6 v5 h5) fun h8 =>
  k fr h8)))
 (.reg fun _ fr h k =>
  obind (pAdd (Tr.get .bad q41 fr) (.int .i64 (.ofNat 1))) fun v0 =>
  forceG v0 fun v => Tr.setK .bad v q41 fr fun f41 =>
  k f41 h)))))))
 (.seq (.seq (.reg fun call fr h k =>
  obind (rLdN 5 (Tr.get .bad q7 fr) h) fun v0 =>
  call q219 [v0] h fun v1 h2 =>
  obind (pLenS v1) fun v2 =>
  forceG v1 fun v => Tr.setK .bad v q57 fr fun f57 =>
  forceG v2 fun v => Tr.setK .bad v q58 f57 fun f58 =>
  forceG (.int .i64 (.ofNat 0)) fun v => Tr.setK .bad v q59 f58 fun f59 =>
  k f59 h2)
 (.block 6 (.loop (.seq (.reg fun _ fr h k =>
  obind (pLss (Tr.get .bad q59 fr) (Tr.get .bad q58 fr)) fun v0 =>
  forceG v0 fun v => Tr.setK .bad v q60 fr fun f60 =>
  k f60 h)
 (.seq (.cond 60 q60 .skip
 (.exit 6))
 (.seq (.block 7 (.seq (.reg fun _ fr h k =>
  obind (pIdxS 1 (Tr.get .bad q57 fr) (Tr.get .bad q59 fr)) fun v0 =>
  obind (rLd1 v0 h) fun v1 =>
  forceG v1 fun v => Tr.setK .bad v q12 fr fun f12 =>
  k f12 h)
 (.reg fun _ fr h k =>
  obind (pIdxA 40 1 (Tr.get .bad q3 fr) (Tr.get .bad q12 fr)) fun v0 =>
  obind (wSt1 v0 (.bool true) h) fun h2 =>
  k fr h2)))
 (.reg fun _ fr h k =>
  obind (pAdd (Tr.get .bad q59 fr) (.int .i64 (.ofNat 1))) fun v0 =>
  forceG v0 fun v => Tr.setK .bad v q59 fr fun f59 =>
  k f59 h)))))))
 (.reg fun _ fr h k =>
  obind (rLdN 5 (Tr.get .bad q7 fr) h) fun v0 =>
  obind2 (nBuildS (rep [.int .i64 (.ofNat 0), .int .i64 (.ofNat 0), .int .i64 (.ofNat 0), .int .i64 (.ofNat 0), .int .u32 (.ofNat 0)] 1) 1 5 none [(0, 5, v0)] h) fun v1 h2 =>
  obind2 (nAppend 5 40 none (Tr.get .bad q5 fr) v1 h2) fun v2 h3 =>
  forceG v2 fun v => Tr.setK .bad v q5 fr fun f5 =>
  k f5 h3)))))))
 (.reg fun _ fr h k =>
  obind (pSub (Tr.get .bad q6 fr) (.int .i64 (.ofNat 1))) fun v0 =>
  forceG v0 fun v => Tr.setK .bad v q6 fr fun f6 =>
  k f6 h))))))
 (.seq (.reg fun call fr h k =>
  call q220 [(Tr.get .bad q5 fr)] h fun _ h1 =>
  k fr h1)
 (.seq (.reg fun _ fr h k =>
  forceG (Tr.get .bad q5 fr) fun v => Tr.setK .bad v q2 fr fun f2 =>
  k f2 h)
 .ret)))))))), resF [.t 2]⟩
theorem g190_ok : Comp Tryz.prog Tryz.f190 1 [2, 3, 4, 5, 6, 7, 8, 10, 12, 15, 16, 17, 26, 38, 39, 40, 41, 42, 57, 58, 59, 60] g190 := ⟨_, [.t 2], rfl, by kernel_rfl, by decide, by kernel_rfl, by kernel_rfl, rfl, rfl⟩
/-- pianola/opt.Fold -/
def g191 : GFunc := ⟨1, (.seq (.reg fun _ fr h k =>
  forceG .nils fun v => Tr.setK .bad v q2 fr fun f2 =>
  k f2 h)
 (.seq (.seq (.reg fun call fr h k =>
  call q214 [(Tr.get .bad q0 fr)] h fun v0 h1 =>
  obind (pNot v0) fun v1 =>
  forceG v1 fun v => Tr.setK .bad v q11 fr fun f11 =>
  k f11 h1)
 (.cond 11 q11 (.seq (.reg fun _ fr h k =>
  forceG .nils fun v => Tr.setK .bad v q2 fr fun f2 =>
  k f2 h)
 .ret)
 .skip))
 (.seq (.reg fun _ fr h k =>
  obind (pBuild [.bool false, .bool false, .bool false, .bool false, .bool false, .bool false, .bool false, .bool false, .bool false, .bool false, .bool false, .bool false, .bool false, .bool false, .bool false, .bool false, .bool false, .bool false, .bool false, .bool false, .bool false, .bool false, .bool false, .bool false, .bool false, .bool false, .bool false, .bool false, .bool false, .bool false, .bool false, .bool false, .bool false, .bool false, .bool false, .bool false, .bool false, .bool false, .bool false, .bool false, .int .u32 (.ofNat 0), .int .u32 (.ofNat 0), .int .u32 (.ofNat 0), .int .u32 (.ofNat 0), .int .u32 (.ofNat 0), .int .u32 (.ofNat 0), .int .u32 (.ofNat 0), .int .u32 (.ofNat 0), .int .u32 (.ofNat 0), .int .u32 (.ofNat 0), .int .u32 (.ofNat 0), .int .u32 (.ofNat 0), .int .u32 (.ofNat 0), .int .u32 (.ofNat 0), .int .u32 (.ofNat 0), .int .u32 (.ofNat 0), .int .u32 (.ofNat 0), .int .u32 (.ofNat 0), .int .u32 (.ofNat 0), .int .u32 (.ofNat 0), .int .u32 (.ofNat 0), .int .u32 (.ofNat 0), .int .u32 (.ofNat 0), .int .u32 (.ofNat 0), .int .u32 (.ofNat 0), .int .u32 (.ofNat 0), .int .u32 (.ofNat 0), .int .u32 (.ofNat 0), .int .u32 (.ofNat 0), .int .u32 (.ofNat 0), .int .u32 (.ofNat 0), .int .u32 (.ofNat 0), .int .u32 (.ofNat 0), .int .u32 (.ofNat 0), .int .u32 (.ofNat 0), .int .u32 (.ofNat 0), .int .u32 (.ofNat 0), .int .u32 (.ofNat 0), .int .u32 (.ofNat 0), .int .u32 (.ofNat 0)] []) fun v0 =>
  obind2 (nBox v0 h) fun v1 h2 =>
  forceG v1 fun v => Tr.setK .bad v q3 fr fun f3 =>
  k f3 h2)
 (.seq (.reg fun _ fr h k =>
  obind (pNilck (Tr.get .bad q3 fr)) fun v0 =>
  obind (pFa 0 v0) fun v1 =>
  obind (pIdxA 40 1 v1 (.int .i64 (.ofNat 0))) fun v2 =>
  obind (wSt1 v2 (.bool true) h) fun h4 =>
  k fr h4)
 (.seq (.reg fun _ fr h k =>
  forceG .nils fun v => Tr.setK .bad v q4 fr fun f4 =>
  k f4 h)
 (.seq (.seq (.reg fun _ fr h k =>
  obind (pLenS (Tr.get .bad q0 fr)) fun v0 =>
  forceG (Tr.get .bad q0 fr) fun v => Tr.setK .bad v q18 fr fun f18 =>
  forceG v0 fun v => Tr.setK .bad v q19 f18 fun f19 =>
  forceG (.int .i64 (.ofNat 0)) fun v => Tr.setK .bad v q20 f19 fun f20 =>
  k f20 h)
 (.block 0 (.loop (.seq (.reg fun _ fr h k =>
  obind (pLss (Tr.get .bad q20 fr) (Tr.get .bad q19 fr)) fun v0 =>
  forceG v0 fun v => Tr.setK .bad v q21 fr fun f21 =>
  k f21 h)
 (.seq (.cond 21 q21 .skip
 (.exit 0))
 (.seq (.block 1 (.seq (.reg fun _ fr h k =>
  obind (pIdxS 5 (Tr.get .bad q18 fr) (Tr.get .bad q20 fr)) fun v0 =>
  obind (rLdN 5 v0 h) fun v1 =>
  obind2 (nAlloc [.int .i64 (.ofNat 0), .int .i64 (.ofNat 0), .int .i64 (.ofNat 0), .int .i64 (.ofNat 0), .int .u32 (.ofNat 0)] h) fun v2 h3 =>
  obind (wStN 5 v2 v1 h3) fun h4 =>
  forceG v2 fun v => Tr.setK .bad v q6 fr fun f6 =>
  k f6 h4)
 (.seq (.reg fun call fr h k =>
  obind (rLdN 5 (Tr.get .bad q6 fr) h) fun v0 =>
  call q221 [(Tr.get .bad q3 fr), v0] h fun v1 h2 =>
  obind (pExt 0 v1) fun v2 =>
  obind (pExt 1 v1) fun v3 =>
  obind2 (nAlloc [.int .i64 (.ofNat 0), .int .i64 (.ofNat 0), .int .i64 (.ofNat 0), .int .i64 (.ofNat 0), .int .u32 (.ofNat 0)] h2) fun v4 h5 =>
  obind (wStN 5 v4 v2 h5) fun h6 =>
  forceG v4 fun v => Tr.setK .bad v q7 fr fun f7 =>
  forceG v3 fun v => Tr.setK .bad v q8 f7 fun f8 =>
  k f8 h6)
 (.seq (.reg fun _ fr h k =>
  forceG (Tr.get .bad q8 fr) fun v => Tr.setK .bad v q30 fr fun f30 =>
  k f30 h)
 (.cond 30 q30 (.seq (.reg fun _ fr h k =>
  obind (rLdN 5 (Tr.get .bad q7 fr) h) fun v0 =>
  obind2 (nBuildS (rep [.int .i64 (.ofNat 0), .int .i64 (.ofNat 0), .int .i64 (.ofNat 0), .int .i64 (.ofNat 0), .int .u32 (.ofNat 0)] 1) 1 5 none [(0, 5, v0)] h) fun v1 h2 =>
  obind2 (nAppend 5 40 none (Tr.get .bad q4 fr) v1 h2) fun v2 h3 =>
  forceG v2 fun v => Tr.setK .bad v q4 fr fun f4 =>
  k f4 h3)
 (.reg fun call fr h k =>
  obind (rLdN 5 (Tr.get .bad q7 fr) h) fun v0 =>
  call q222 [(Tr.get .bad q3 fr), v0] h fun _ h2 =>
  k fr h2))
 .skip)))))
 (.reg fun _ fr h k =>
  obind (pAdd (Tr.get .bad q20 fr) (.int .i64 (.ofNat 1))) fun v0 =>
  forceG v0 fun v => Tr.setK .bad v q20 fr fun f20 =>
  k f20 h)))))))
 (.seq (.reg fun _ fr h k =>
  forceG (Tr.get .bad q4 fr) fun v => Tr.setK .bad v q2 fr fun f2 =>
  k f2 h)
 .ret))))))), resF [.t 2]⟩
theorem g191_ok : Comp Tryz.prog Tryz.f191 1 [2, 3, 4, 6, 7, 8, 11, 18, 19, 20, 21, 30] g191 := ⟨_, [.t 2], rfl, by kernel_rfl, by decide, by kernel_rfl, by kernel_rfl, rfl, rfl⟩
/-- pianola/lift.Is -/
def g192 : GFunc := ⟨1, (.seq (.reg fun _ fr h k =>
  obind2 (nBox (Tr.get .bad q0 fr) h) fun v0 h1 =>
  forceG v0 fun v => Tr.setK .bad v q1 fr fun f1 =>
  forceG (.bool false) fun v => Tr.setK .bad v q2 f1 fun f2 =>
  k f2 h1)
 (.seq (.reg fun call fr h k =>
  obind (rLdN 6 (Tr.get .bad q1 fr) h) fun v0 =>
  call q223 [v0] h fun v1 h2 =>
  guardC v1 true h2 (fun k => obind (rLdN 6 (Tr.get .bad q1 fr) h2) fun v => k v h2) fun v2 h3 =>
  guardC v1 true h3 (fun k => call q73 [v2] h3 k) fun v3 h4 =>
  guardC v1 true h4 (fun k => obind (pEql v3 (.int .i64 (.ofNat 1))) fun v => k v h4) fun v4 h5 =>
  obind (pPick v1 v4 (.bool false)) fun v5 =>
  forceG v5 fun v => Tr.setK .bad v q2 fr fun f2 =>
  k f2 h5)
 .ret)), resF [.t 2]⟩
theorem g192_ok : Comp Tryz.prog Tryz.f192 1 [1, 2] g192 := ⟨_, [.t 2], rfl, by kernel_rfl, by decide, by kernel_rfl, by kernel_rfl, rfl, rfl⟩
/-- pianola/lift.kind -/
def g193 : GFunc := ⟨1, (.seq (.reg fun _ fr h k =>
  forceG (.int .i64 (.ofNat 0)) fun v => Tr.setK .bad v q2 fr fun f2 =>
  k f2 h)
 (.seq (.seq (.reg fun _ fr h k =>
  forceG (Tr.get .bad q0 fr) fun v => Tr.setK .bad v q3 fr fun f3 =>
  k f3 h)
 (.block 0 (.seq (.seq (.reg fun _ fr h k =>
  obind (pEql (Tr.get .bad q3 fr) (.int .i64 (.ofNat 1))) fun v0 =>
  forceG v0 fun v => Tr.setK .bad v q4 fr fun f4 =>
  k f4 h)
 (.cond 4 q4 .skip
 (.reg fun _ fr h k =>
  obind (pEql (Tr.get .bad q3 fr) (.int .i64 (.ofNat 4))) fun v0 =>
  forceG v0 fun v => Tr.setK .bad v q4 fr fun f4 =>
  k f4 h)))
 (.cond 4 q4 (.seq (.reg fun _ fr h k =>
  forceG (.int .i64 (.ofNat 9)) fun v => Tr.setK .bad v q2 fr fun f2 =>
  k f2 h)
 .ret)
 (.seq (.seq (.reg fun _ fr h k =>
  obind (pEql (Tr.get .bad q3 fr) (.int .i64 (.ofNat 2))) fun v0 =>
  forceG v0 fun v => Tr.setK .bad v q7 fr fun f7 =>
  k f7 h)
 (.cond 7 q7 .skip
 (.reg fun _ fr h k =>
  obind (pEql (Tr.get .bad q3 fr) (.int .i64 (.ofNat 5))) fun v0 =>
  forceG v0 fun v => Tr.setK .bad v q7 fr fun f7 =>
  k f7 h)))
 (.cond 7 q7 (.seq (.reg fun _ fr h k =>
  forceG (.int .i64 (.ofNat 10)) fun v => Tr.setK .bad v q2 fr fun f2 =>
  k f2 h)
 .ret)
 (.seq (.seq (.reg fun _ fr h k =>
  obind (pEql (Tr.get .bad q3 fr) (.int .i64 (.ofNat 3))) fun v0 =>
  forceG v0 fun v => Tr.setK .bad v q10 fr fun f10 =>
  k f10 h)
 (.cond 10 q10 .skip
 (.reg fun _ fr h k =>
  obind (pEql (Tr.get .bad q3 fr) (.int .i64 (.ofNat 6))) fun v0 =>
  forceG v0 fun v => Tr.setK .bad v q10 fr fun f10 =>
  k f10 h)))
 (.cond 10 q10 (.seq (.reg fun _ fr h k =>
  forceG (.int .i64 (.ofNat 11)) fun v => Tr.setK .bad v q2 fr fun f2 =>
  k f2 h)
 .ret)
 (.seq (.seq (.reg fun _ fr h k =>
  obind (pEql (Tr.get .bad q3 fr) (.int .i64 (.ofNat 23))) fun v0 =>
  forceG v0 fun v => Tr.setK .bad v q13 fr fun f13 =>
  k f13 h)
 (.cond 13 q13 .skip
 (.reg fun _ fr h k =>
  obind (pEql (Tr.get .bad q3 fr) (.int .i64 (.ofNat 47))) fun v0 =>
  forceG v0 fun v => Tr.setK .bad v q13 fr fun f13 =>
  k f13 h)))
 (.cond 13 q13 (.seq (.reg fun _ fr h k =>
  forceG (.int .i64 (.ofNat 3)) fun v => Tr.setK .bad v q2 fr fun f2 =>
  k f2 h)
 .ret)
 (.seq (.reg fun _ fr h k =>
  obind (pEql (Tr.get .bad q3 fr) (.int .i64 (.ofNat 25))) fun v0 =>
  forceG v0 fun v => Tr.setK .bad v q16 fr fun f16 =>
  k f16 h)
 (.cond 16 q16 (.seq (.reg fun _ fr h k =>
  forceG (.int .i64 (.ofNat 4)) fun v => Tr.setK .bad v q2 fr fun f2 =>
  k f2 h)
 .ret)
 (.seq (.seq (.reg fun _ fr h k =>
  obind (pEql (Tr.get .bad q3 fr) (.int .i64 (.ofNat 26))) fun v0 =>
  forceG v0 fun v => Tr.setK .bad v q18 fr fun f18 =>
  k f18 h)
 (.cond 18 q18 .skip
 (.reg fun _ fr h k =>
  obind (pEql (Tr.get .bad q3 fr) (.int .i64 (.ofNat 50))) fun v0 =>
  forceG v0 fun v => Tr.setK .bad v q18 fr fun f18 =>
  k f18 h)))
 (.cond 18 q18 (.seq (.reg fun _ fr h k =>
  forceG (.int .i64 (.ofNat 5)) fun v => Tr.setK .bad v q2 fr fun f2 =>
  k f2 h)
 .ret)
 (.seq (.seq (.reg fun _ fr h k =>
  obind (pEql (Tr.get .bad q3 fr) (.int .i64 (.ofNat 27))) fun v0 =>
  forceG v0 fun v => Tr.setK .bad v q21 fr fun f21 =>
  k f21 h)
 (.cond 21 q21 .skip
 (.reg fun _ fr h k =>
  obind (pEql (Tr.get .bad q3 fr) (.int .i64 (.ofNat 51))) fun v0 =>
  forceG v0 fun v => Tr.setK .bad v q21 fr fun f21 =>
  k f21 h)))
 (.cond 21 q21 (.seq (.reg fun _ fr h k =>
  forceG (.int .i64 (.ofNat 6)) fun v => Tr.setK .bad v q2 fr fun f2 =>
  k f2 h)
 .ret)
 (.seq (.seq (.reg fun _ fr h k =>
  obind (pEql (Tr.get .bad q3 fr) (.int .i64 (.ofNat 28))) fun v0 =>
  forceG v0 fun v => Tr.setK .bad v q24 fr fun f24 =>
  k f24 h)
 (.cond 24 q24 .skip
 (.reg fun _ fr h k =>
  obind (pEql (Tr.get .bad q3 fr) (.int .i64 (.ofNat 52))) fun v0 =>
  forceG v0 fun v => Tr.setK .bad v q24 fr fun f24 =>
  k f24 h)))
 (.cond 24 q24 (.seq (.reg fun _ fr h k =>
  forceG (.int .i64 (.ofNat 7)) fun v => Tr.setK .bad v q2 fr fun f2 =>
  k f2 h)
 .ret)
 (.seq (.reg fun _ fr h k =>
  obind (pEql (Tr.get .bad q3 fr) (.int .i64 (.ofNat 29))) fun v0 =>
  forceG v0 fun v => Tr.setK .bad v q27 fr fun f27 =>
  k f27 h)
 (.cond 27 q27 (.seq (.reg fun _ fr h k =>
  forceG (.int .i64 (.ofNat 8)) fun v => Tr.setK .bad v q2 fr fun f2 =>
  k f2 h)
 .ret)
 (.seq (.seq (.reg fun _ fr h k =>
  obind (pEql (Tr.get .bad q3 fr) (.int .i64 (.ofNat 30))) fun v0 =>
  forceG v0 fun v => Tr.setK .bad v q29 fr fun f29 =>
  k f29 h)
 (.cond 29 q29 .skip
 (.reg fun _ fr h k =>
  obind (pEql (Tr.get .bad q3 fr) (.int .i64 (.ofNat 48))) fun v0 =>
  forceG v0 fun v => Tr.setK .bad v q29 fr fun f29 =>
  k f29 h)))
 (.cond 29 q29 (.seq (.reg fun _ fr h k =>
  forceG (.int .i64 (.ofNat 12)) fun v => Tr.setK .bad v q2 fr fun f2 =>
  k f2 h)
 .ret)
 (.seq (.seq (.reg fun _ fr h k =>
  obind (pEql (Tr.get .bad q3 fr) (.int .i64 (.ofNat 31))) fun v0 =>
  forceG v0 fun v => Tr.setK .bad v q32 fr fun f32 =>
  k f32 h)
 (.cond 32 q32 .skip
 (.reg fun _ fr h k =>
  obind (pEql (Tr.get .bad q3 fr) (.int .i64 (.ofNat 49))) fun v0 =>
  forceG v0 fun v => Tr.setK .bad v q32 fr fun f32 =>
  k f32 h)))
 (.cond 32 q32 (.seq (.reg fun _ fr h k =>
  forceG (.int .i64 (.ofNat 13)) fun v => Tr.setK .bad v q2 fr fun f2 =>
  k f2 h)
 .ret)
 (.seq (.reg fun _ fr h k =>
  obind (pEql (Tr.get .bad q3 fr) (.int .i64 (.ofNat 63))) fun v0 =>
  forceG v0 fun v => Tr.setK .bad v q35 fr fun f35 =>
  k f35 h)
 (.cond 35 q35 (.seq (.reg fun _ fr h k =>
  forceG (.int .i64 (.ofNat 14)) fun v => Tr.setK .bad v q2 fr fun f2 =>
  k f2 h)
 .ret)
 (.seq (.reg fun _ fr h k =>
  obind (pEql (Tr.get .bad q3 fr) (.int .i64 (.ofNat 64))) fun v0 =>
  forceG v0 fun v => Tr.setK .bad v q37 fr fun f37 =>
  k f37 h)
 (.cond 37 q37 (.seq (.reg fun _ fr h k =>
  forceG (.int .i64 (.ofNat 15)) fun v => Tr.setK .bad v q2 fr fun f2 =>
  k f2 h)
 .ret)
 (.seq (.reg fun _ fr h k =>
  obind (pEql (Tr.get .bad q3 fr) (.int .i64 (.ofNat 65))) fun v0 =>
  forceG v0 fun v => Tr.setK .bad v q39 fr fun f39 =>
  k f39 h)
 (.cond 39 q39 (.seq (.reg fun _ fr h k =>
  forceG (.int .i64 (.ofNat 16)) fun v => Tr.setK .bad v q2 fr fun f2 =>
  k f2 h)
 .ret)
 (.seq (.reg fun _ fr h k =>
  obind (pEql (Tr.get .bad q3 fr) (.int .i64 (.ofNat 18))) fun v0 =>
  forceG v0 fun v => Tr.setK .bad v q41 fr fun f41 =>
  k f41 h)
 (.cond 41 q41 (.seq (.reg fun _ fr h k =>
  forceG (.int .i64 (.ofNat 17)) fun v => Tr.setK .bad v q2 fr fun f2 =>
  k f2 h)
 .ret)
 (.seq (.reg fun _ fr h k =>
  obind (pEql (Tr.get .bad q3 fr) (.int .i64 (.ofNat 19))) fun v0 =>
  forceG v0 fun v => Tr.setK .bad v q43 fr fun f43 =>
  k f43 h)
 (.cond 43 q43 (.seq (.reg fun _ fr h k =>
  forceG (.int .i64 (.ofNat 18)) fun v => Tr.setK .bad v q2 fr fun f2 =>
  k f2 h)
 .ret)
 (.seq (.reg fun _ fr h k =>
  obind (pEql (Tr.get .bad q3 fr) (.int .i64 (.ofNat 20))) fun v0 =>
  forceG v0 fun v => Tr.setK .bad v q45 fr fun f45 =>
  k f45 h)
 (.cond 45 q45 (.seq (.reg fun _ fr h k =>
  forceG (.int .i64 (.ofNat 19)) fun v => Tr.setK .bad v q2 fr fun f2 =>
  k f2 h)
 .ret)
 (.seq (.reg fun _ fr h k =>
  obind (pEql (Tr.get .bad q3 fr) (.int .i64 (.ofNat 21))) fun v0 =>
  forceG v0 fun v => Tr.setK .bad v q47 fr fun f47 =>
  k f47 h)
 (.cond 47 q47 (.seq (.reg fun _ fr h k =>
  forceG (.int .i64 (.ofNat 20)) fun v => Tr.setK .bad v q2 fr fun f2 =>
  k f2 h)
 .ret)
 (.seq (.reg fun _ fr h k =>
  obind (pEql (Tr.get .bad q3 fr) (.int .i64 (.ofNat 9))) fun v0 =>
  forceG v0 fun v => Tr.setK .bad v q49 fr fun f49 =>
  k f49 h)
 (.cond 49 q49 (.seq (.reg fun _ fr h k =>
  forceG (.int .i64 (.ofNat 21)) fun v => Tr.setK .bad v q2 fr fun f2 =>
  k f2 h)
 .ret)
 (.seq (.reg fun _ fr h k =>
  obind (pEql (Tr.get .bad q3 fr) (.int .i64 (.ofNat 10))) fun v0 =>
  forceG v0 fun v => Tr.setK .bad v q51 fr fun f51 =>
  k f51 h)
 (.cond 51 q51 (.seq (.reg fun _ fr h k =>
  forceG (.int .i64 (.ofNat 22)) fun v => Tr.setK .bad v q2 fr fun f2 =>
  k f2 h)
 .ret)
 .skip))))))))))))))))))))))))))))))))))))))))))
 (.seq (.reg fun _ fr h k =>
  forceG (.int .i64 (.ofNat 0)) fun v => Tr.setK .bad v q2 fr fun f2 =>
  k f2 h)
 .ret))), resF [.t 2]⟩
theorem g193_ok : Comp Tryz.prog Tryz.f193 1 [2, 3, 4, 7, 10, 13, 16, 18, 21, 24, 27, 29, 32, 35, 37, 39, 41, 43, 45, 47, 49, 51] g193 := ⟨_, [.t 2], rfl, by kernel_rfl, by decide, by kernel_rfl, by kernel_rfl, rfl, rfl⟩
/-- pianola/alu.Into -/
def g194 : GFunc := ⟨1, (.seq (.reg fun _ fr h k =>
  obind2 (nBox (Tr.get .bad q0 fr) h) fun v0 h1 =>
  forceG v0 fun v => Tr.setK .bad v q1 fr fun f1 =>
  forceG (.int .i64 (.ofNat 0)) fun v => Tr.setK .bad v q2 f1 fun f2 =>
  k f2 h1)
 (.seq (.block 0 (.seq (.reg fun call fr h k =>
  obind (pFa 0 (Tr.get .bad q1 fr)) fun v0 =>
  obind (rLd1 v0 h) fun v1 =>
  call q224 [v1] h fun v2 h3 =>
  obind (pNot v2) fun v3 =>
  forceG v3 fun v => Tr.setK .bad v q3 fr fun f3 =>
  k f3 h3)
 (.cond 3 q3 (.seq (.reg fun _ fr h k =>
  forceG (.int .i64 (.ofNat 0)) fun v => Tr.setK .bad v q2 fr fun f2 =>
  k f2 h)
 .ret)
 (.seq (.reg fun _ fr h k =>
  obind (pFa 0 (Tr.get .bad q1 fr)) fun v0 =>
  obind (rLd1 v0 h) fun v1 =>
  obind (pGeq v1 (.int .i64 (.ofNat 46))) fun v2 =>
  guardC v2 true h (fun k => obind (pFa 0 (Tr.get .bad q1 fr)) fun v => k v h) fun v3 h4 =>
  guardC v2 true h4 (fun k => obind (rLd1 v3 h4) fun v => k v h4) fun v4 h5 =>
  guardC v2 true h5 (fun k => obind (pLeq v4 (.int .i64 (.ofNat 53))) fun v => k v h5) fun v5 h6 =>
  obind (pPick v2 v5 (.bool false)) fun v6 =>
  forceG v6 fun v => Tr.setK .bad v q8 fr fun f8 =>
  k f8 h6)
 (.cond 8 q8 (.seq (.reg fun _ fr h k =>
  obind (pFa 2 (Tr.get .bad q1 fr)) fun v0 =>
  obind (rLd1 v0 h) fun v1 =>
  forceG v1 fun v => Tr.setK .bad v q2 fr fun f2 =>
  k f2 h)
 .ret)
 .skip)))))
 (.seq (.reg fun _ fr h k =>
  obind (pFa 3 (Tr.get .bad q1 fr)) fun v0 =>
  obind (rLd1 v0 h) fun v1 =>
  forceG v1 fun v => Tr.setK .bad v q2 fr fun f2 =>
  k f2 h)
 .ret))), resF [.t 2]⟩
theorem g194_ok : Comp Tryz.prog Tryz.f194 1 [1, 2, 3, 8] g194 := ⟨_, [.t 2], rfl, by kernel_rfl, by decide, by kernel_rfl, by kernel_rfl, rfl, rfl⟩
/-- pianola/lift.imm -/
def g195 : GFunc := ⟨1, (.seq (.reg fun _ fr h k =>
  obind2 (nBox (Tr.get .bad q0 fr) h) fun v0 h1 =>
  forceG v0 fun v => Tr.setK .bad v q1 fr fun f1 =>
  forceG (.int .u32 (.ofNat 0)) fun v => Tr.setK .bad v q2 f1 fun f2 =>
  k f2 h1)
 (.seq (.seq (.reg fun _ fr h k =>
  obind (pFa 0 (Tr.get .bad q1 fr)) fun v0 =>
  obind (rLd1 v0 h) fun v1 =>
  obind (pEql v1 (.int .i64 (.ofNat 50))) fun v2 =>
  guardC v2 false h (fun k => obind (pFa 0 (Tr.get .bad q1 fr)) fun v => k v h) fun v3 h4 =>
  guardC v2 false h4 (fun k => obind (rLd1 v3 h4) fun v => k v h4) fun v4 h5 =>
  guardC v2 false h5 (fun k => obind (pEql v4 (.int .i64 (.ofNat 51))) fun v => k v h5) fun v5 h6 =>
  obind (pPick v2 (.bool true) v5) fun v6 =>
  guardC v6 false h6 (fun k => obind (pFa 0 (Tr.get .bad q1 fr)) fun v => k v h6) fun v7 h8 =>
  guardC v6 false h8 (fun k => obind (rLd1 v7 h8) fun v => k v h8) fun v8 h9 =>
  guardC v6 false h9 (fun k => obind (pEql v8 (.int .i64 (.ofNat 52))) fun v => k v h9) fun v9 h10 =>
  obind (pPick v6 (.bool true) v9) fun v10 =>
  forceG v10 fun v => Tr.setK .bad v q15 fr fun f15 =>
  k f15 h10)
 (.cond 15 q15 (.seq (.reg fun _ fr h k =>
  obind (pFa 5 (Tr.get .bad q1 fr)) fun v0 =>
  obind (rLd1 v0 h) fun v1 =>
  forceG v1 fun v => Tr.setK .bad v q2 fr fun f2 =>
  k f2 h)
 .ret)
 .skip))
 (.seq (.reg fun call fr h k =>
  obind (pFa 5 (Tr.get .bad q1 fr)) fun v0 =>
  obind (rLd1 v0 h) fun v1 =>
  call q225 [v1, (.int .i64 (.ofNat 16))] h fun v2 h3 =>
  forceG v2 fun v => Tr.setK .bad v q2 fr fun f2 =>
  k f2 h3)
 .ret))), resF [.t 2]⟩
theorem g195_ok : Comp Tryz.prog Tryz.f195 1 [1, 2, 15] g195 := ⟨_, [.t 2], rfl, by kernel_rfl, by decide, by kernel_rfl, by kernel_rfl, rfl, rfl⟩
end
end Go.Ev
