/- Ghost code of the Go functions, printed by a program of this session (genfiles.py). -/
import Derived.Test.YtbofkbhobcahiaaGreatEvComp
import Derived.Test.YtbofkbhobcahiaaGreatProg
namespace Go.Ev
open Go.Proofs
set_option maxRecDepth 100000
noncomputable section
/-- pianola/decode.Right -/
def g223 : GFunc := ⟨1, (.seq (.reg fun _ fr h k =>
  obind2 (nBox (Tr.get .bad q0 fr) h) fun v0 h1 =>
  forceG v0 fun v => Tr.setK .bad v q1 fr fun f1 =>
  forceG (.bool false) fun v => Tr.setK .bad v q2 f1 fun f2 =>
  k f2 h1)
 (.seq (.seq (.reg fun _ fr h k =>
  obind (pFa 1 (Tr.get .bad q1 fr)) fun v0 =>
  obind (rLd1 v0 h) fun v1 =>
  obind (pFa 2 (Tr.get .bad q1 fr)) fun v2 =>
  obind (rLd1 v2 h) fun v3 =>
  obind (pFa 3 (Tr.get .bad q1 fr)) fun v4 =>
  obind (rLd1 v4 h) fun v5 =>
  obind (pFa 4 (Tr.get .bad q1 fr)) fun v6 =>
  obind (rLd1 v6 h) fun v7 =>
  obind2 (nBuildS (rep [.int .i64 (.ofNat 0)] 4) 4 1 (some (.i64, 64)) [(0, 1, v1), (1, 1, v3), (2, 1, v5), (3, 1, v7)] h) fun v8 h9 =>
  obind (pLenS v8) fun v9 =>
  forceG v8 fun v => Tr.setK .bad v q13 fr fun f13 =>
  forceG v9 fun v => Tr.setK .bad v q14 f13 fun f14 =>
  forceG (.int .i64 (.ofNat 0)) fun v => Tr.setK .bad v q15 f14 fun f15 =>
  k f15 h9)
 (.block 0 (.loop (.seq (.reg fun _ fr h k =>
  obind (pLss (Tr.get .bad q15 fr) (Tr.get .bad q14 fr)) fun v0 =>
  forceG v0 fun v => Tr.setK .bad v q16 fr fun f16 =>
  k f16 h)
 (.seq (.cond 16 q16 .skip
 (.exit 0))
 (.seq (.block 1 (.seq (.reg fun _ fr h k =>
  obind (pIdxS 1 (Tr.get .bad q13 fr) (Tr.get .bad q15 fr)) fun v0 =>
  obind (rLd1 v0 h) fun v1 =>
  forceG v1 fun v => Tr.setK .bad v q4 fr fun f4 =>
  k f4 h)
 (.seq (.reg fun _ fr h k =>
  obind (pLss (Tr.get .bad q4 fr) (.int .i64 (.ofNat 0))) fun v0 =>
  guardC v0 false h (fun k => k (Tr.get .bad q4 fr) h) fun v1 h2 =>
  guardC v0 false h2 (fun k => obind (pGtr v1 (.int .i64 (.ofNat 31))) fun v => k v h2) fun v2 h3 =>
  obind (pPick v0 (.bool true) v2) fun v3 =>
  forceG v3 fun v => Tr.setK .bad v q24 fr fun f24 =>
  k f24 h3)
 (.cond 24 q24 (.seq (.reg fun _ fr h k =>
  forceG (.bool false) fun v => Tr.setK .bad v q2 fr fun f2 =>
  k f2 h)
 .ret)
 .skip))))
 (.reg fun _ fr h k =>
  obind (pAdd (Tr.get .bad q15 fr) (.int .i64 (.ofNat 1))) fun v0 =>
  forceG v0 fun v => Tr.setK .bad v q15 fr fun f15 =>
  k f15 h)))))))
 (.seq (.reg fun call fr h k =>
  obind (pFa 0 (Tr.get .bad q1 fr)) fun v0 =>
  obind (rLd1 v0 h) fun v1 =>
  obind (pGtr v1 (.int .i64 (.ofNat 0))) fun v2 =>
  guardC v2 true h (fun k => obind (pFa 0 (Tr.get .bad q1 fr)) fun v => k v h) fun v3 h4 =>
  guardC v2 true h4 (fun k => obind (rLd1 v3 h4) fun v => k v h4) fun v4 h5 =>
  guardC v2 true h5 (fun k => obind (pLss v4 (.int .i64 (.ofNat 78))) fun v => k v h5) fun v5 h6 =>
  obind (pPick v2 v5 (.bool false)) fun v6 =>
  guardC v6 true h6 (fun k => obind (pFa 5 (Tr.get .bad q1 fr)) fun v => k v h6) fun v7 h8 =>
  guardC v6 true h8 (fun k => obind (rLd1 v7 h8) fun v => k v h8) fun v8 h9 =>
  guardC v6 true h9 (fun k => obind (pLeq v8 (.int .u32 (.ofNat 67108863))) fun v => k v h9) fun v9 h10 =>
  obind (pPick v6 v9 (.bool false)) fun v10 =>
  guardC v10 true h10 (fun k => obind (pFa 0 (Tr.get .bad q1 fr)) fun v => k v h10) fun v11 h12 =>
  guardC v10 true h12 (fun k => obind (rLd1 v11 h12) fun v => k v h12) fun v12 h13 =>
  guardC v10 true h13 (fun k => obind (rLdN 6 (Tr.get .bad q1 fr) h13) fun v => k v h13) fun v13 h14 =>
  guardC v10 true h14 (fun k => call q238 [v13] h14 k) fun v14 h15 =>
  guardC v10 true h15 (fun k => call q128 [v12, v14] h15 k) fun v15 h16 =>
  guardC v10 true h16 (fun k => obind (rLdN 6 (Tr.get .bad q1 fr) h16) fun v => k v h16) fun v16 h17 =>
  guardC v10 true h17 (fun k => obind (pEqlA [1, 1, 1, 1, 1, 1] v15 v16) fun v => k v h17) fun v17 h18 =>
  obind (pPick v10 v17 (.bool false)) fun v18 =>
  chk v12 (rLd1 v11 h15) <|
  chk v16 (rLdN 6 (Tr.get .bad q1 fr) h14) <|
  chk v16 (rLdN 6 (Tr.get .bad q1 fr) h15) <|
  forceG v18 fun v => Tr.setK .bad v q2 fr fun f2 =>
  k f2 h18)
 .ret))), resF [.t 2]⟩
theorem g223_ok : Comp Tryz.prog Tryz.f223 1 [1, 2, 4, 13, 14, 15, 16, 24] g223 := ⟨_, [.t 2], rfl, by kernel_rfl, by decide, by kernel_rfl, by kernel_rfl, rfl, rfl⟩
/-- pianola/alu.Is -/
def g224 : GFunc := ⟨1, (.seq (.reg fun _ fr h k =>
  forceG (.bool false) fun v => Tr.setK .bad v q2 fr fun f2 =>
  k f2 h)
 (.seq (.reg fun _ fr h k =>
  obind (pGeq (Tr.get .bad q0 fr) (.int .i64 (.ofNat 1))) fun v0 =>
  guardC v0 true h (fun k => k (Tr.get .bad q0 fr) h) fun v1 h2 =>
  guardC v0 true h2 (fun k => obind (pLeq v1 (.int .i64 (.ofNat 6))) fun v => k v h2) fun v2 h3 =>
  obind (pPick v0 v2 (.bool false)) fun v3 =>
  guardC v3 false h3 (fun k => k (Tr.get .bad q0 fr) h3) fun v4 h5 =>
  guardC v3 false h5 (fun k => obind (pGeq v4 (.int .i64 (.ofNat 22))) fun v => k v h5) fun v5 h6 =>
  guardC v3 false h6 (fun k => k v5 h6) fun v6 h7 =>
  guardC v6 true h7 (fun k => k (Tr.get .bad q0 fr) h7) fun v7 h8 =>
  guardC v6 true h8 (fun k => obind (pLeq v7 (.int .i64 (.ofNat 31))) fun v => k v h8) fun v8 h9 =>
  guardC v3 false h9 (fun k => obind (pPick v6 v8 (.bool false)) fun v => k v h9) fun v9 h10 =>
  obind (pPick v3 (.bool true) v9) fun v10 =>
  guardC v10 false h10 (fun k => k (Tr.get .bad q0 fr) h10) fun v11 h12 =>
  guardC v10 false h12 (fun k => obind (pGeq v11 (.int .i64 (.ofNat 46))) fun v => k v h12) fun v12 h13 =>
  guardC v10 false h13 (fun k => k v12 h13) fun v13 h14 =>
  guardC v13 true h14 (fun k => k (Tr.get .bad q0 fr) h14) fun v14 h15 =>
  guardC v13 true h15 (fun k => obind (pLeq v14 (.int .i64 (.ofNat 53))) fun v => k v h15) fun v15 h16 =>
  guardC v10 false h16 (fun k => obind (pPick v13 v15 (.bool false)) fun v => k v h16) fun v16 h17 =>
  obind (pPick v10 (.bool true) v16) fun v17 =>
  guardC v17 false h17 (fun k => k (Tr.get .bad q0 fr) h17) fun v18 h19 =>
  guardC v17 false h19 (fun k => obind (pGeq v18 (.int .i64 (.ofNat 63))) fun v => k v h19) fun v19 h20 =>
  guardC v17 false h20 (fun k => k v19 h20) fun v20 h21 =>
  guardC v20 true h21 (fun k => k (Tr.get .bad q0 fr) h21) fun v21 h22 =>
  guardC v20 true h22 (fun k => obind (pLeq v21 (.int .i64 (.ofNat 65))) fun v => k v h22) fun v22 h23 =>
  guardC v17 false h23 (fun k => obind (pPick v20 v22 (.bool false)) fun v => k v h23) fun v23 h24 =>
  obind (pPick v17 (.bool true) v23) fun v24 =>
  forceG v24 fun v => Tr.setK .bad v q2 fr fun f2 =>
  k f2 h24)
 .ret)), resF [.t 2]⟩
theorem g224_ok : Comp Tryz.prog Tryz.f224 1 [2] g224 := ⟨_, [.t 2], rfl, by kernel_rfl, by decide, by kernel_rfl, by kernel_rfl, rfl, rfl⟩
/-- pianola/word.Sign -/
def g225 : GFunc := ⟨2, (.seq (.reg fun _ fr h k =>
  forceG (.int .u32 (.ofNat 0)) fun v => Tr.setK .bad v q4 fr fun f4 =>
  k f4 h)
 (.seq (.block 0 (.seq (.reg fun _ fr h k =>
  obind (pLss (Tr.get .bad q1 fr) (.int .i64 (.ofNat 1))) fun v0 =>
  forceG v0 fun v => Tr.setK .bad v q5 fr fun f5 =>
  k f5 h)
 (.cond 5 q5 (.seq (.reg fun _ fr h k =>
  forceG (.int .u32 (.ofNat 0)) fun v => Tr.setK .bad v q4 fr fun f4 =>
  k f4 h)
 .ret)
 (.seq (.reg fun _ fr h k =>
  obind (pGtr (Tr.get .bad q1 fr) (.int .i64 (.ofNat 31))) fun v0 =>
  forceG v0 fun v => Tr.setK .bad v q8 fr fun f8 =>
  k f8 h)
 (.cond 8 q8 (.seq (.reg fun _ fr h k =>
  forceG (Tr.get .bad q0 fr) fun v => Tr.setK .bad v q4 fr fun f4 =>
  k f4 h)
 .ret)
 .skip)))))
 (.seq (.reg fun call fr h k =>
  obind (pSub (.int .i64 (.ofNat 32)) (Tr.get .bad q1 fr)) fun v0 =>
  obind (pShl (Tr.get .bad q0 fr) v0) fun v1 =>
  obind (pSub (.int .i64 (.ofNat 32)) (Tr.get .bad q1 fr)) fun v2 =>
  call q239 [v1, v2] h fun v3 h4 =>
  forceG v3 fun v => Tr.setK .bad v q4 fr fun f4 =>
  k f4 h4)
 .ret))), resF [.t 4]⟩
theorem g225_ok : Comp Tryz.prog Tryz.f225 2 [4, 5, 8] g225 := ⟨_, [.t 4], rfl, by kernel_rfl, by decide, by kernel_rfl, by kernel_rfl, rfl, rfl⟩
/-- pianola/pianolaref6.Look -/
def g231 : GFunc := ⟨3, (.seq (.reg fun _ fr h k =>
  forceG (.int .u32 (.ofNat 0)) fun v => Tr.setK .bad v q6 fr fun f6 =>
  forceG (.int .i64 (.ofNat 0)) fun v => Tr.setK .bad v q7 f6 fun f7 =>
  forceG (.bool false) fun v => Tr.setK .bad v q8 f7 fun f8 =>
  k f8 h)
 (.seq (.reg fun _ fr h k =>
  forceG (.int .i64 (.ofNat 2)) fun v => Tr.setK .bad v q9 fr fun f9 =>
  k f9 h)
 (.seq (.seq (.reg fun _ fr h k =>
  forceG (Tr.get .bad q2 fr) fun v => Tr.setK .bad v q12 fr fun f12 =>
  k f12 h)
 (.cond 12 q12 (.reg fun _ fr h k =>
  forceG (.int .i64 (.ofNat 3)) fun v => Tr.setK .bad v q9 fr fun f9 =>
  k f9 h)
 .skip))
 (.seq (.reg fun call fr h k =>
  call q208 [(Tr.get .bad q0 fr), (Tr.get .bad q1 fr)] h fun v0 h1 =>
  forceG v0 fun v => Tr.setK .bad v q10 fr fun f10 =>
  k f10 h1)
 (.seq (.seq (.reg fun _ fr h k =>
  obind (pLss (Tr.get .bad q10 fr) (.int .i64 (.ofNat 0))) fun v0 =>
  forceG v0 fun v => Tr.setK .bad v q17 fr fun f17 =>
  k f17 h)
 (.cond 17 q17 (.seq (.reg fun _ fr h k =>
  forceG (.int .u32 (.ofNat 0)) fun v => Tr.setK .bad v q6 fr fun f6 =>
  forceG (Tr.get .bad q9 fr) fun v => Tr.setK .bad v q7 f6 fun f7 =>
  forceG (.bool true) fun v => Tr.setK .bad v q8 f7 fun f8 =>
  k f8 h)
 .ret)
 .skip))
 (.seq (.reg fun _ fr h k =>
  obind (pNilck (Tr.get .bad q0 fr)) fun v0 =>
  obind (pFa 55 v0) fun v1 =>
  obind (pIdxA 8 2 v1 (Tr.get .bad q10 fr)) fun v2 =>
  obind (pFa 1 v2) fun v3 =>
  obind (rLd1 v3 h) fun v4 =>
  forceG v4 fun v => Tr.setK .bad v q11 fr fun f11 =>
  k f11 h)
 (.seq (.seq (.reg fun _ fr h k =>
  obind (pAnd (Tr.get .bad q11 fr) (.int .u32 (.ofNat 1))) fun v0 =>
  obind (pEql v0 (.int .u32 (.ofNat 0))) fun v1 =>
  forceG v1 fun v => Tr.setK .bad v q28 fr fun f28 =>
  k f28 h)
 (.cond 28 q28 (.seq (.reg fun _ fr h k =>
  forceG (.int .u32 (.ofNat 0)) fun v => Tr.setK .bad v q6 fr fun f6 =>
  forceG (Tr.get .bad q9 fr) fun v => Tr.setK .bad v q7 f6 fun f7 =>
  forceG (.bool false) fun v => Tr.setK .bad v q8 f7 fun f8 =>
  k f8 h)
 .ret)
 .skip))
 (.seq (.seq (.reg fun _ fr h k =>
  guardC (Tr.get .bad q2 fr) true h (fun k => k (Tr.get .bad q11 fr) h) fun v0 h1 =>
  guardC (Tr.get .bad q2 fr) true h1 (fun k => obind (pAnd v0 (.int .u32 (.ofNat 2))) fun v => k v h1) fun v1 h2 =>
  guardC (Tr.get .bad q2 fr) true h2 (fun k => obind (pEql v1 (.int .u32 (.ofNat 0))) fun v => k v h2) fun v2 h3 =>
  obind (pPick (Tr.get .bad q2 fr) v2 (.bool false)) fun v3 =>
  forceG v3 fun v => Tr.setK .bad v q35 fr fun f35 =>
  k f35 h3)
 (.cond 35 q35 (.seq (.reg fun _ fr h k =>
  forceG (.int .u32 (.ofNat 0)) fun v => Tr.setK .bad v q6 fr fun f6 =>
  forceG (.int .i64 (.ofNat 1)) fun v => Tr.setK .bad v q7 f6 fun f7 =>
  forceG (.bool false) fun v => Tr.setK .bad v q8 f7 fun f8 =>
  k f8 h)
 .ret)
 .skip))
 (.seq (.reg fun _ fr h k =>
  obind (pAndNot (Tr.get .bad q11 fr) (.int .u32 (.ofNat 1023))) fun v0 =>
  obind (pAnd (Tr.get .bad q1 fr) (.int .u32 (.ofNat 1023))) fun v1 =>
  obind (pOr v0 v1) fun v2 =>
  forceG v2 fun v => Tr.setK .bad v q6 fr fun f6 =>
  forceG (.int .i64 (.negSucc 0)) fun v => Tr.setK .bad v q7 f6 fun f7 =>
  forceG (.bool false) fun v => Tr.setK .bad v q8 f7 fun f8 =>
  k f8 h)
 .ret))))))))), resF [.t 6, .t 7, .t 8]⟩
theorem g231_ok : Comp Tryz.prog Tryz.f231 3 [6, 7, 8, 9, 10, 11, 12, 17, 28, 35] g231 := ⟨_, [.t 6, .t 7, .t 8], rfl, by kernel_rfl, by decide, by kernel_rfl, by kernel_rfl, rfl, rfl⟩
/-- pianola/ir.Right -/
def g232 : GFunc := ⟨1, (.seq (.reg fun _ fr h k =>
  obind2 (nBox (Tr.get .bad q0 fr) h) fun v0 h1 =>
  forceG v0 fun v => Tr.setK .bad v q1 fr fun f1 =>
  forceG (.bool false) fun v => Tr.setK .bad v q2 f1 fun f2 =>
  k f2 h1)
 (.seq (.seq (.reg fun _ fr h k =>
  obind (pFa 1 (Tr.get .bad q1 fr)) fun v0 =>
  obind (rLd1 v0 h) fun v1 =>
  obind (pFa 2 (Tr.get .bad q1 fr)) fun v2 =>
  obind (rLd1 v2 h) fun v3 =>
  obind (pFa 3 (Tr.get .bad q1 fr)) fun v4 =>
  obind (rLd1 v4 h) fun v5 =>
  obind2 (nBuildS (rep [.int .i64 (.ofNat 0)] 3) 3 1 (some (.i64, 64)) [(0, 1, v1), (1, 1, v3), (2, 1, v5)] h) fun v6 h7 =>
  obind (pLenS v6) fun v7 =>
  forceG v6 fun v => Tr.setK .bad v q11 fr fun f11 =>
  forceG v7 fun v => Tr.setK .bad v q12 f11 fun f12 =>
  forceG (.int .i64 (.ofNat 0)) fun v => Tr.setK .bad v q13 f12 fun f13 =>
  k f13 h7)
 (.block 0 (.loop (.seq (.reg fun _ fr h k =>
  obind (pLss (Tr.get .bad q13 fr) (Tr.get .bad q12 fr)) fun v0 =>
  forceG v0 fun v => Tr.setK .bad v q14 fr fun f14 =>
  k f14 h)
 (.seq (.cond 14 q14 .skip
 (.exit 0))
 (.seq (.block 1 (.seq (.reg fun _ fr h k =>
  obind (pIdxS 1 (Tr.get .bad q11 fr) (Tr.get .bad q13 fr)) fun v0 =>
  obind (rLd1 v0 h) fun v1 =>
  forceG v1 fun v => Tr.setK .bad v q4 fr fun f4 =>
  k f4 h)
 (.seq (.reg fun _ fr h k =>
  obind (pLss (Tr.get .bad q4 fr) (.int .i64 (.ofNat 0))) fun v0 =>
  guardC v0 false h (fun k => k (Tr.get .bad q4 fr) h) fun v1 h2 =>
  guardC v0 false h2 (fun k => obind (pGeq v1 (.int .i64 (.ofNat 40))) fun v => k v h2) fun v2 h3 =>
  obind (pPick v0 (.bool true) v2) fun v3 =>
  forceG v3 fun v => Tr.setK .bad v q22 fr fun f22 =>
  k f22 h3)
 (.cond 22 q22 (.seq (.reg fun _ fr h k =>
  forceG (.bool false) fun v => Tr.setK .bad v q2 fr fun f2 =>
  k f2 h)
 .ret)
 .skip))))
 (.reg fun _ fr h k =>
  obind (pAdd (Tr.get .bad q13 fr) (.int .i64 (.ofNat 1))) fun v0 =>
  forceG v0 fun v => Tr.setK .bad v q13 fr fun f13 =>
  k f13 h)))))))
 (.seq (.reg fun _ fr h k =>
  obind (pFa 0 (Tr.get .bad q1 fr)) fun v0 =>
  obind (rLd1 v0 h) fun v1 =>
  obind (pGeq v1 (.int .i64 (.ofNat 0))) fun v2 =>
  guardC v2 true h (fun k => obind (pFa 0 (Tr.get .bad q1 fr)) fun v => k v h) fun v3 h4 =>
  guardC v2 true h4 (fun k => obind (rLd1 v3 h4) fun v => k v h4) fun v4 h5 =>
  guardC v2 true h5 (fun k => obind (pLeq v4 (.int .i64 (.ofNat 22))) fun v => k v h5) fun v5 h6 =>
  obind (pPick v2 v5 (.bool false)) fun v6 =>
  forceG v6 fun v => Tr.setK .bad v q2 fr fun f2 =>
  k f2 h6)
 .ret))), resF [.t 2]⟩
theorem g232_ok : Comp Tryz.prog Tryz.f232 1 [1, 2, 4, 11, 12, 13, 14, 22] g232 := ⟨_, [.t 2], rfl, by kernel_rfl, by decide, by kernel_rfl, by kernel_rfl, rfl, rfl⟩
/-- slices.IndexFunc[[]int,int] -/
def g233 : GFunc := ⟨2, (.seq (.reg fun _ fr h k =>
  forceG (.int .i64 (.ofNat 0)) fun v => Tr.setK .bad v q4 fr fun f4 =>
  k f4 h)
 (.seq (.seq (.reg fun _ fr h k =>
  obind (pLenS (Tr.get .bad q0 fr)) fun v0 =>
  forceG v0 fun v => Tr.setK .bad v q7 fr fun f7 =>
  forceG (.int .i64 (.ofNat 0)) fun v => Tr.setK .bad v q8 f7 fun f8 =>
  k f8 h)
 (.block 0 (.loop (.seq (.reg fun _ fr h k =>
  obind (pLss (Tr.get .bad q8 fr) (Tr.get .bad q7 fr)) fun v0 =>
  forceG v0 fun v => Tr.setK .bad v q9 fr fun f9 =>
  k f9 h)
 (.seq (.cond 9 q9 .skip
 (.exit 0))
 (.seq (.block 1 (.seq (.reg fun _ fr h k =>
  forceG (Tr.get .bad q8 fr) fun v => Tr.setK .bad v q5 fr fun f5 =>
  k f5 h)
 (.seq (.reg fun call fr h k =>
  obind (pIdxS 1 (Tr.get .bad q0 fr) (Tr.get .bad q5 fr)) fun v0 =>
  obind (rLd1 v0 h) fun v1 =>
  callF call (Tr.get .bad q1 fr) [v1] h fun v2 h3 =>
  forceG v2 fun v => Tr.setK .bad v q16 fr fun f16 =>
  k f16 h3)
 (.cond 16 q16 (.seq (.reg fun _ fr h k =>
  forceG (Tr.get .bad q5 fr) fun v => Tr.setK .bad v q4 fr fun f4 =>
  k f4 h)
 .ret)
 .skip))))
 (.reg fun _ fr h k =>
  obind (pAdd (Tr.get .bad q8 fr) (.int .i64 (.ofNat 1))) fun v0 =>
  forceG v0 fun v => Tr.setK .bad v q8 fr fun f8 =>
  k f8 h)))))))
 (.seq (.reg fun _ fr h k =>
  forceG (.int .i64 (.negSucc 0)) fun v => Tr.setK .bad v q4 fr fun f4 =>
  k f4 h)
 .ret))), resF [.t 4]⟩
theorem g233_ok : Comp Tryz.prog Tryz.f233 2 [4, 5, 7, 8, 9, 16] g233 := ⟨_, [.t 4], rfl, by kernel_rfl, by decide, by kernel_rfl, by kernel_rfl, rfl, rfl⟩
/-- slices.Sort[[]int,int] -/
def g234 : GFunc := ⟨1, (.seq (.reg fun _ fr h k =>
  obind (pLenS (Tr.get .bad q0 fr)) fun v0 =>
  forceG v0 fun v => Tr.setK .bad v q2 fr fun f2 =>
  k f2 h)
 (.reg fun call fr h k =>
  obind (pConv .u64 (Tr.get .bad q2 fr)) fun v0 =>
  call q243 [v0] h fun v1 h2 =>
  call q242 [(Tr.get .bad q0 fr), (.int .i64 (.ofNat 0)), (Tr.get .bad q2 fr), v1] h2 fun _ h3 =>
  k fr h3)), resF []⟩
theorem g234_ok : Comp Tryz.prog Tryz.f234 1 [2] g234 := ⟨_, [], rfl, by kernel_rfl, by decide, by kernel_rfl, by kernel_rfl, rfl, rfl⟩
/-- slices.Compact[[]int,int] -/
def g235 : GFunc := ⟨1, (.seq (.reg fun _ fr h k =>
  forceG .nils fun v => Tr.setK .bad v q2 fr fun f2 =>
  k f2 h)
 (.seq (.seq (.reg fun _ fr h k =>
  obind (pLenS (Tr.get .bad q0 fr)) fun v0 =>
  obind (pLss v0 (.int .i64 (.ofNat 2))) fun v1 =>
  forceG v1 fun v => Tr.setK .bad v q8 fr fun f8 =>
  k f8 h)
 (.cond 8 q8 (.seq (.reg fun _ fr h k =>
  forceG (Tr.get .bad q0 fr) fun v => Tr.setK .bad v q2 fr fun f2 =>
  k f2 h)
 .ret)
 .skip))
 (.seq (.seq (.reg fun _ fr h k =>
  forceG (.int .i64 (.ofNat 1)) fun v => Tr.setK .bad v q3 fr fun f3 =>
  k f3 h)
 (.block 0 (.loop (.seq (.seq (.reg fun _ fr h k =>
  obind (pLenS (Tr.get .bad q0 fr)) fun v0 =>
  obind (pLss (Tr.get .bad q3 fr) v0) fun v1 =>
  forceG v1 fun v => Tr.setK .bad v q13 fr fun f13 =>
  k f13 h)
 (.cond 13 q13 .skip
 (.exit 0)))
 (.seq (.block 1 (.seq (.reg fun _ fr h k =>
  obind (pIdxS 1 (Tr.get .bad q0 fr) (Tr.get .bad q3 fr)) fun v0 =>
  obind (rLd1 v0 h) fun v1 =>
  obind (pSub (Tr.get .bad q3 fr) (.int .i64 (.ofNat 1))) fun v2 =>
  obind (pIdxS 1 (Tr.get .bad q0 fr) v2) fun v3 =>
  obind (rLd1 v3 h) fun v4 =>
  obind (pEql v1 v4) fun v5 =>
  forceG v5 fun v => Tr.setK .bad v q25 fr fun f25 =>
  k f25 h)
 (.cond 25 q25 (.seq (.reg fun _ fr h k =>
  obind (pSlS 1 (some (Tr.get .bad q3 fr)) none none (Tr.get .bad q0 fr)) fun v0 =>
  forceG v0 fun v => Tr.setK .bad v q4 fr fun f4 =>
  k f4 h)
 (.seq (.seq (.reg fun _ fr h k =>
  forceG (.int .i64 (.ofNat 1)) fun v => Tr.setK .bad v q5 fr fun f5 =>
  k f5 h)
 (.block 2 (.loop (.seq (.seq (.reg fun _ fr h k =>
  obind (pLenS (Tr.get .bad q4 fr)) fun v0 =>
  obind (pLss (Tr.get .bad q5 fr) v0) fun v1 =>
  forceG v1 fun v => Tr.setK .bad v q32 fr fun f32 =>
  k f32 h)
 (.cond 32 q32 .skip
 (.exit 2)))
 (.seq (.block 3 (.seq (.reg fun _ fr h k =>
  obind (pIdxS 1 (Tr.get .bad q4 fr) (Tr.get .bad q5 fr)) fun v0 =>
  obind (rLd1 v0 h) fun v1 =>
  obind (pSub (Tr.get .bad q5 fr) (.int .i64 (.ofNat 1))) fun v2 =>
  obind (pIdxS 1 (Tr.get .bad q4 fr) v2) fun v3 =>
  obind (rLd1 v3 h) fun v4 =>
  obind (pNeq v1 v4) fun v5 =>
  forceG v5 fun v => Tr.setK .bad v q44 fr fun f44 =>
  k f44 h)
 (.cond 44 q44 (.seq (.reg fun _ fr h k =>
  obind (pIdxS 1 (Tr.get .bad q4 fr) (Tr.get .bad q5 fr)) fun v0 =>
  obind (rLd1 v0 h) fun v1 =>
  obind (pIdxS 1 (Tr.get .bad q0 fr) (Tr.get .bad q3 fr)) fun v2 =>
  obind (wSt1 v2 v1 h) fun h4 =>
  k fr h4)
 (.reg fun _ fr h k =>
  obind (pAdd (Tr.get .bad q3 fr) (.int .i64 (.ofNat 1))) fun v0 =>
  forceG v0 fun v => Tr.setK .bad v q3 fr fun f3 =>
  k f3 h))
 .skip)))
 (.reg fun _ fr h k =>
  obind (pAdd (Tr.get .bad q5 fr) (.int .i64 (.ofNat 1))) fun v0 =>
  forceG v0 fun v => Tr.setK .bad v q5 fr fun f5 =>
  k f5 h))))))
 (.seq (.reg fun _ fr h k =>
  obind (pSlS 1 (some (Tr.get .bad q3 fr)) none none (Tr.get .bad q0 fr)) fun v0 =>
  obind2 (nClear [.int .i64 (.ofNat 0)] 1 (some (.i64, 64)) v0 h) fun _ h2 =>
  k fr h2)
 (.seq (.reg fun _ fr h k =>
  obind (pSlS 1 none (some (Tr.get .bad q3 fr)) none (Tr.get .bad q0 fr)) fun v0 =>
  forceG v0 fun v => Tr.setK .bad v q2 fr fun f2 =>
  k f2 h)
 .ret))))
 .skip)))
 (.reg fun _ fr h k =>
  obind (pAdd (Tr.get .bad q3 fr) (.int .i64 (.ofNat 1))) fun v0 =>
  forceG v0 fun v => Tr.setK .bad v q3 fr fun f3 =>
  k f3 h))))))
 (.seq (.reg fun _ fr h k =>
  forceG (Tr.get .bad q0 fr) fun v => Tr.setK .bad v q2 fr fun f2 =>
  k f2 h)
 .ret)))), resF [.t 2]⟩
theorem g235_ok : Comp Tryz.prog Tryz.f235 1 [2, 3, 4, 5, 8, 13, 25, 32, 44] g235 := ⟨_, [.t 2], rfl, by kernel_rfl, by decide, by kernel_rfl, by kernel_rfl, rfl, rfl⟩
/-- (*pianola/opt.facts).knows -/
def g236 : GFunc := ⟨2, (.seq (.reg fun _ fr h k =>
  forceG (.bool false) fun v => Tr.setK .bad v q4 fr fun f4 =>
  k f4 h)
 (.seq (.seq (.reg fun _ fr h k =>
  obind (pLenS (Tr.get .bad q1 fr)) fun v0 =>
  forceG (Tr.get .bad q1 fr) fun v => Tr.setK .bad v q7 fr fun f7 =>
  forceG v0 fun v => Tr.setK .bad v q8 f7 fun f8 =>
  forceG (.int .i64 (.ofNat 0)) fun v => Tr.setK .bad v q9 f8 fun f9 =>
  k f9 h)
 (.block 0 (.loop (.seq (.reg fun _ fr h k =>
  obind (pLss (Tr.get .bad q9 fr) (Tr.get .bad q8 fr)) fun v0 =>
  forceG v0 fun v => Tr.setK .bad v q10 fr fun f10 =>
  k f10 h)
 (.seq (.cond 10 q10 .skip
 (.exit 0))
 (.seq (.block 1 (.seq (.reg fun _ fr h k =>
  obind (pIdxS 1 (Tr.get .bad q7 fr) (Tr.get .bad q9 fr)) fun v0 =>
  obind (rLd1 v0 h) fun v1 =>
  forceG v1 fun v => Tr.setK .bad v q6 fr fun f6 =>
  k f6 h)
 (.seq (.reg fun _ fr h k =>
  obind (pNilck (Tr.get .bad q0 fr)) fun v0 =>
  obind (pFa 0 v0) fun v1 =>
  obind (pIdxA 40 1 v1 (Tr.get .bad q6 fr)) fun v2 =>
  obind (rLd1 v2 h) fun v3 =>
  obind (pNot v3) fun v4 =>
  forceG v4 fun v => Tr.setK .bad v q19 fr fun f19 =>
  k f19 h)
 (.cond 19 q19 (.seq (.reg fun _ fr h k =>
  forceG (.bool false) fun v => Tr.setK .bad v q4 fr fun f4 =>
  k f4 h)
 .ret)
 .skip))))
 (.reg fun _ fr h k =>
  obind (pAdd (Tr.get .bad q9 fr) (.int .i64 (.ofNat 1))) fun v0 =>
  forceG v0 fun v => Tr.setK .bad v q9 fr fun f9 =>
  k f9 h)))))))
 (.seq (.reg fun _ fr h k =>
  forceG (.bool true) fun v => Tr.setK .bad v q4 fr fun f4 =>
  k f4 h)
 .ret))), resF [.t 4]⟩
theorem g236_ok : Comp Tryz.prog Tryz.f236 2 [4, 6, 7, 8, 9, 10, 19] g236 := ⟨_, [.t 4], rfl, by kernel_rfl, by decide, by kernel_rfl, by kernel_rfl, rfl, rfl⟩
/-- pianola/ir.Run -/
def g237 : GFunc := ⟨2, (.seq (.reg fun _ fr h k =>
  forceG (.bool false) fun v => Tr.setK .bad v q4 fr fun f4 =>
  k f4 h)
 (.seq (.seq (.reg fun call fr h k =>
  obind (pEqlN 0 (Tr.get .bad q0 fr) .nilp) fun v0 =>
  guardC v0 false h (fun k => k (Tr.get .bad q1 fr) h) fun v1 h2 =>
  guardC v0 false h2 (fun k => call q244 [v1, (.fn q245 [])] h2 k) fun v2 h3 =>
  obind (pPick v0 (.bool true) v2) fun v3 =>
  forceG v3 fun v => Tr.setK .bad v q12 fr fun f12 =>
  k f12 h3)
 (.cond 12 q12 (.seq (.reg fun _ fr h k =>
  forceG (.bool false) fun v => Tr.setK .bad v q4 fr fun f4 =>
  k f4 h)
 .ret)
 .skip))
 (.seq (.reg fun _ fr h k =>
  obind (pNilck (Tr.get .bad q0 fr)) fun v0 =>
  obind (pIdxA 40 1 v0 (.int .i64 (.ofNat 0))) fun v1 =>
  obind (wSt1 v1 (.int .u32 (.ofNat 0)) h) fun h3 =>
  k fr h3)
 (.seq (.seq (.reg fun _ fr h k =>
  obind (pLenS (Tr.get .bad q1 fr)) fun v0 =>
  forceG (Tr.get .bad q1 fr) fun v => Tr.setK .bad v q16 fr fun f16 =>
  forceG v0 fun v => Tr.setK .bad v q17 f16 fun f17 =>
  forceG (.int .i64 (.ofNat 0)) fun v => Tr.setK .bad v q18 f17 fun f18 =>
  k f18 h)
 (.block 0 (.loop (.seq (.reg fun _ fr h k =>
  obind (pLss (Tr.get .bad q18 fr) (Tr.get .bad q17 fr)) fun v0 =>
  forceG v0 fun v => Tr.setK .bad v q19 fr fun f19 =>
  k f19 h)
 (.seq (.cond 19 q19 .skip
 (.exit 0))
 (.seq (.block 1 (.seq (.reg fun _ fr h k =>
  obind (pIdxS 5 (Tr.get .bad q16 fr) (Tr.get .bad q18 fr)) fun v0 =>
  obind (rLdN 5 v0 h) fun v1 =>
  obind2 (nAlloc [.int .i64 (.ofNat 0), .int .i64 (.ofNat 0), .int .i64 (.ofNat 0), .int .i64 (.ofNat 0), .int .u32 (.ofNat 0)] h) fun v2 h3 =>
  obind (wStN 5 v2 v1 h3) fun h4 =>
  forceG v2 fun v => Tr.setK .bad v q6 fr fun f6 =>
  k f6 h4)
 (.reg fun call fr h k =>
  obind (rLdN 5 (Tr.get .bad q6 fr) h) fun v0 =>
  call q246 [(Tr.get .bad q0 fr), v0] h fun _ h2 =>
  k fr h2)))
 (.reg fun _ fr h k =>
  obind (pAdd (Tr.get .bad q18 fr) (.int .i64 (.ofNat 1))) fun v0 =>
  forceG v0 fun v => Tr.setK .bad v q18 fr fun f18 =>
  k f18 h)))))))
 (.seq (.reg fun _ fr h k =>
  forceG (.bool true) fun v => Tr.setK .bad v q4 fr fun f4 =>
  k f4 h)
 .ret))))), resF [.t 4]⟩
theorem g237_ok : Comp Tryz.prog Tryz.f237 2 [4, 6, 12, 16, 17, 18, 19] g237 := ⟨_, [.t 4], rfl, by kernel_rfl, by decide, by kernel_rfl, by kernel_rfl, rfl, rfl⟩
/-- pianola/decode.put -/
def g238 : GFunc := ⟨1, (.seq (.reg fun _ fr h k =>
  obind2 (nBox (Tr.get .bad q0 fr) h) fun v0 h1 =>
  forceG v0 fun v => Tr.setK .bad v q1 fr fun f1 =>
  forceG (.int .u32 (.ofNat 0)) fun v => Tr.setK .bad v q2 f1 fun f2 =>
  k f2 h1)
 (.seq (.reg fun _ fr h k =>
  obind (pFa 1 (Tr.get .bad q1 fr)) fun v0 =>
  obind (rLd1 v0 h) fun v1 =>
  obind (pConv .u32 v1) fun v2 =>
  obind (pShl v2 (.int .u64 (.ofNat 21))) fun v3 =>
  obind (pFa 2 (Tr.get .bad q1 fr)) fun v4 =>
  obind (rLd1 v4 h) fun v5 =>
  obind (pConv .u32 v5) fun v6 =>
  obind (pShl v6 (.int .u64 (.ofNat 16))) fun v7 =>
  obind (pOr v3 v7) fun v8 =>
  obind (pFa 3 (Tr.get .bad q1 fr)) fun v9 =>
  obind (rLd1 v9 h) fun v10 =>
  obind (pConv .u32 v10) fun v11 =>
  obind (pShl v11 (.int .u64 (.ofNat 11))) fun v12 =>
  obind (pOr v8 v12) fun v13 =>
  obind (pFa 4 (Tr.get .bad q1 fr)) fun v14 =>
  obind (rLd1 v14 h) fun v15 =>
  obind (pConv .u32 v15) fun v16 =>
  obind (pShl v16 (.int .u64 (.ofNat 6))) fun v17 =>
  obind (pOr v13 v17) fun v18 =>
  obind (pFa 5 (Tr.get .bad q1 fr)) fun v19 =>
  obind (rLd1 v19 h) fun v20 =>
  obind (pOr v18 v20) fun v21 =>
  forceG v21 fun v => Tr.setK .bad v q2 fr fun f2 =>
  k f2 h)
 .ret)), resF [.t 2]⟩
theorem g238_ok : Comp Tryz.prog Tryz.f238 1 [1, 2] g238 := ⟨_, [.t 2], rfl, by kernel_rfl, by decide, by kernel_rfl, by kernel_rfl, rfl, rfl⟩
/-- pianola/word.Sar -/
def g239 : GFunc := ⟨2, (.seq (.reg fun _ fr h k =>
  forceG (.int .u32 (.ofNat 0)) fun v => Tr.setK .bad v q4 fr fun f4 =>
  k f4 h)
 (.seq (.reg fun _ fr h k =>
  obind (pConv .i32 (Tr.get .bad q0 fr)) fun v0 =>
  obind (pAnd (Tr.get .bad q1 fr) (.int .i64 (.ofNat 31))) fun v1 =>
  obind (pShr v0 v1) fun v2 =>
  obind (pConv .u32 v2) fun v3 =>
  forceG v3 fun v => Tr.setK .bad v q4 fr fun f4 =>
  k f4 h)
 .ret)), resF [.t 4]⟩
theorem g239_ok : Comp Tryz.prog Tryz.f239 2 [4] g239 := ⟨_, [.t 4], rfl, by kernel_rfl, by decide, by kernel_rfl, by kernel_rfl, rfl, rfl⟩
/-- slices.pdqsortOrdered[int] -/
def g242 : GFunc := ⟨4, (.seq (.reg fun _ fr h k =>
  forceG (.bool true) fun v => Tr.setK .bad v q8 fr fun f8 =>
  k f8 h)
 (.seq (.reg fun _ fr h k =>
  forceG (.bool true) fun v => Tr.setK .bad v q9 fr fun f9 =>
  k f9 h)
 (.block 0 (.loop (.block 1 (.seq (.reg fun _ fr h k =>
  obind (pSub (Tr.get .bad q2 fr) (Tr.get .bad q1 fr)) fun v0 =>
  forceG v0 fun v => Tr.setK .bad v q10 fr fun f10 =>
  k f10 h)
 (.seq (.seq (.reg fun _ fr h k =>
  obind (pLeq (Tr.get .bad q10 fr) (.int .i64 (.ofNat 12))) fun v0 =>
  forceG v0 fun v => Tr.setK .bad v q23 fr fun f23 =>
  k f23 h)
 (.cond 23 q23 (.seq (.reg fun call fr h k =>
  call q249 [(Tr.get .bad q0 fr), (Tr.get .bad q1 fr), (Tr.get .bad q2 fr)] h fun _ h1 =>
  k fr h1)
 .ret)
 .skip))
 (.seq (.seq (.reg fun _ fr h k =>
  obind (pEql (Tr.get .bad q3 fr) (.int .i64 (.ofNat 0))) fun v0 =>
  forceG v0 fun v => Tr.setK .bad v q29 fr fun f29 =>
  k f29 h)
 (.cond 29 q29 (.seq (.reg fun call fr h k =>
  call q250 [(Tr.get .bad q0 fr), (Tr.get .bad q1 fr), (Tr.get .bad q2 fr)] h fun _ h1 =>
  k fr h1)
 .ret)
 .skip))
 (.seq (.seq (.reg fun _ fr h k =>
  obind (pNot (Tr.get .bad q8 fr)) fun v0 =>
  forceG v0 fun v => Tr.setK .bad v q35 fr fun f35 =>
  k f35 h)
 (.cond 35 q35 (.seq (.reg fun call fr h k =>
  call q251 [(Tr.get .bad q0 fr), (Tr.get .bad q1 fr), (Tr.get .bad q2 fr)] h fun _ h1 =>
  k fr h1)
 (.reg fun _ fr h k =>
  obind (pSub (Tr.get .bad q3 fr) (.int .i64 (.ofNat 1))) fun v0 =>
  forceG v0 fun v => Tr.setK .bad v q3 fr fun f3 =>
  k f3 h))
 .skip))
 (.seq (.reg fun call fr h k =>
  call q252 [(Tr.get .bad q0 fr), (Tr.get .bad q1 fr), (Tr.get .bad q2 fr)] h fun v0 h1 =>
  obind (pExt 0 v0) fun v1 =>
  obind (pExt 1 v0) fun v2 =>
  forceG v1 fun v => Tr.setK .bad v q11 fr fun f11 =>
  forceG v2 fun v => Tr.setK .bad v q12 f11 fun f12 =>
  k f12 h1)
 (.seq (.seq (.reg fun _ fr h k =>
  obind (pEql (Tr.get .bad q12 fr) (.int .i64 (.ofNat 2))) fun v0 =>
  forceG v0 fun v => Tr.setK .bad v q50 fr fun f50 =>
  k f50 h)
 (.cond 50 q50 (.seq (.reg fun call fr h k =>
  call q253 [(Tr.get .bad q0 fr), (Tr.get .bad q1 fr), (Tr.get .bad q2 fr)] h fun _ h1 =>
  k fr h1)
 (.seq (.reg fun _ fr h k =>
  obind (pSub (Tr.get .bad q2 fr) (.int .i64 (.ofNat 1))) fun v0 =>
  obind (pSub (Tr.get .bad q11 fr) (Tr.get .bad q1 fr)) fun v1 =>
  obind (pSub v0 v1) fun v2 =>
  forceG v2 fun v => Tr.setK .bad v q11 fr fun f11 =>
  k f11 h)
 (.reg fun _ fr h k =>
  forceG (.int .i64 (.ofNat 1)) fun v => Tr.setK .bad v q12 fr fun f12 =>
  k f12 h)))
 .skip))
 (.seq (.seq (.reg fun _ fr h k =>
  guardC (Tr.get .bad q8 fr) true h (fun k => k (Tr.get .bad q9 fr) h) fun v0 h1 =>
  obind (pPick (Tr.get .bad q8 fr) v0 (.bool false)) fun v1 =>
  guardC v1 true h1 (fun k => k (Tr.get .bad q12 fr) h1) fun v2 h3 =>
  guardC v1 true h3 (fun k => obind (pEql v2 (.int .i64 (.ofNat 1))) fun v => k v h3) fun v3 h4 =>
  obind (pPick v1 v3 (.bool false)) fun v4 =>
  forceG v4 fun v => Tr.setK .bad v q68 fr fun f68 =>
  k f68 h4)
 (.cond 68 q68 (.seq (.reg fun call fr h k =>
  call q254 [(Tr.get .bad q0 fr), (Tr.get .bad q1 fr), (Tr.get .bad q2 fr)] h fun v0 h1 =>
  forceG v0 fun v => Tr.setK .bad v q72 fr fun f72 =>
  k f72 h1)
 (.cond 72 q72 .ret
 .skip))
 .skip))
 (.seq (.seq (.reg fun call fr h k =>
  obind (pGtr (Tr.get .bad q1 fr) (.int .i64 (.ofNat 0))) fun v0 =>
  guardC v0 true h (fun k => k (Tr.get .bad q0 fr) h) fun v1 h2 =>
  guardC v0 true h2 (fun k => k (Tr.get .bad q1 fr) h2) fun v2 h3 =>
  guardC v0 true h3 (fun k => obind (pSub v2 (.int .i64 (.ofNat 1))) fun v => k v h3) fun v3 h4 =>
  guardC v0 true h4 (fun k => obind (pIdxS 1 v1 v3) fun v => k v h4) fun v4 h5 =>
  guardC v0 true h5 (fun k => obind (rLd1 v4 h5) fun v => k v h5) fun v5 h6 =>
  guardC v0 true h6 (fun k => k (Tr.get .bad q0 fr) h6) fun v6 h7 =>
  guardC v0 true h7 (fun k => k (Tr.get .bad q11 fr) h7) fun v7 h8 =>
  guardC v0 true h8 (fun k => obind (pIdxS 1 v6 v7) fun v => k v h8) fun v8 h9 =>
  guardC v0 true h9 (fun k => obind (rLd1 v8 h9) fun v => k v h9) fun v9 h10 =>
  guardC v0 true h10 (fun k => call q255 [v5, v9] h10 k) fun v10 h11 =>
  guardC v0 true h11 (fun k => obind (pNot v10) fun v => k v h11) fun v11 h12 =>
  obind (pPick v0 v11 (.bool false)) fun v12 =>
  forceG v12 fun v => Tr.setK .bad v q87 fr fun f87 =>
  k f87 h12)
 (.cond 87 q87 (.seq (.reg fun call fr h k =>
  call q256 [(Tr.get .bad q0 fr), (Tr.get .bad q1 fr), (Tr.get .bad q2 fr), (Tr.get .bad q11 fr)] h fun v0 h1 =>
  forceG v0 fun v => Tr.setK .bad v q13 fr fun f13 =>
  k f13 h1)
 (.seq (.reg fun _ fr h k =>
  forceG (Tr.get .bad q13 fr) fun v => Tr.setK .bad v q1 fr fun f1 =>
  k f1 h)
 (.exit 1)))
 .skip))
 (.seq (.reg fun call fr h k =>
  call q257 [(Tr.get .bad q0 fr), (Tr.get .bad q1 fr), (Tr.get .bad q2 fr), (Tr.get .bad q11 fr)] h fun v0 h1 =>
  obind (pExt 0 v0) fun v1 =>
  obind (pExt 1 v0) fun v2 =>
  forceG v1 fun v => Tr.setK .bad v q14 fr fun f14 =>
  forceG v2 fun v => Tr.setK .bad v q15 f14 fun f15 =>
  k f15 h1)
 (.seq (.reg fun _ fr h k =>
  forceG (Tr.get .bad q15 fr) fun v => Tr.setK .bad v q9 fr fun f9 =>
  k f9 h)
 (.seq (.reg fun _ fr h k =>
  obind (pSub (Tr.get .bad q14 fr) (Tr.get .bad q1 fr)) fun v0 =>
  obind (pSub (Tr.get .bad q2 fr) (Tr.get .bad q14 fr)) fun v1 =>
  forceG v0 fun v => Tr.setK .bad v q16 fr fun f16 =>
  forceG v1 fun v => Tr.setK .bad v q17 f16 fun f17 =>
  k f17 h)
 (.seq (.reg fun _ fr h k =>
  obind (pQuo (Tr.get .bad q10 fr) (.int .i64 (.ofNat 8))) fun v0 =>
  forceG v0 fun v => Tr.setK .bad v q18 fr fun f18 =>
  k f18 h)
 (.seq (.reg fun _ fr h k =>
  obind (pLss (Tr.get .bad q16 fr) (Tr.get .bad q17 fr)) fun v0 =>
  forceG v0 fun v => Tr.setK .bad v q113 fr fun f113 =>
  k f113 h)
 (.cond 113 q113 (.seq (.reg fun _ fr h k =>
  obind (pGeq (Tr.get .bad q16 fr) (Tr.get .bad q18 fr)) fun v0 =>
  forceG v0 fun v => Tr.setK .bad v q8 fr fun f8 =>
  k f8 h)
 (.seq (.reg fun call fr h k =>
  call q242 [(Tr.get .bad q0 fr), (Tr.get .bad q1 fr), (Tr.get .bad q14 fr), (Tr.get .bad q3 fr)] h fun _ h1 =>
  k fr h1)
 (.reg fun _ fr h k =>
  obind (pAdd (Tr.get .bad q14 fr) (.int .i64 (.ofNat 1))) fun v0 =>
  forceG v0 fun v => Tr.setK .bad v q1 fr fun f1 =>
  k f1 h)))
 (.seq (.reg fun _ fr h k =>
  obind (pGeq (Tr.get .bad q17 fr) (Tr.get .bad q18 fr)) fun v0 =>
  forceG v0 fun v => Tr.setK .bad v q8 fr fun f8 =>
  k f8 h)
 (.seq (.reg fun call fr h k =>
  obind (pAdd (Tr.get .bad q14 fr) (.int .i64 (.ofNat 1))) fun v0 =>
  call q242 [(Tr.get .bad q0 fr), v0, (Tr.get .bad q2 fr), (Tr.get .bad q3 fr)] h fun _ h2 =>
  k fr h2)
 (.reg fun _ fr h k =>
  forceG (Tr.get .bad q14 fr) fun v => Tr.setK .bad v q2 fr fun f2 =>
  k f2 h)))))))))))))))))))))), resF []⟩
theorem g242_ok : Comp Tryz.prog Tryz.f242 4 [1, 2, 3, 8, 9, 10, 11, 12, 13, 14, 15, 16, 17, 18, 23, 29, 35, 50, 68, 72, 87, 113] g242 := ⟨_, [], rfl, by kernel_rfl, by decide, by kernel_rfl, by kernel_rfl, rfl, rfl⟩
/-- math/bits.Len -/
def g243 : GFunc := ⟨1, (.seq (.reg fun _ fr h k =>
  forceG (.int .i64 (.ofNat 0)) fun v => Tr.setK .bad v q2 fr fun f2 =>
  k f2 h)
 (.seq .skip
 (.seq (.reg fun call fr h k =>
  call q259 [(Tr.get .bad q0 fr)] h fun v0 h1 =>
  forceG v0 fun v => Tr.setK .bad v q2 fr fun f2 =>
  k f2 h1)
 .ret))), resF [.t 2]⟩
theorem g243_ok : Comp Tryz.prog Tryz.f243 1 [2] g243 := ⟨_, [.t 2], rfl, by kernel_rfl, by decide, by kernel_rfl, by kernel_rfl, rfl, rfl⟩
/-- slices.ContainsFunc[[]pianola/ir.Op,pianola/ir.Op] -/
def g244 : GFunc := ⟨2, (.seq (.reg fun _ fr h k =>
  forceG (.bool false) fun v => Tr.setK .bad v q4 fr fun f4 =>
  k f4 h)
 (.seq (.reg fun call fr h k =>
  call q260 [(Tr.get .bad q0 fr), (Tr.get .bad q1 fr)] h fun v0 h1 =>
  obind (pGeq v0 (.int .i64 (.ofNat 0))) fun v1 =>
  forceG v1 fun v => Tr.setK .bad v q4 fr fun f4 =>
  k f4 h1)
 .ret)), resF [.t 4]⟩
theorem g244_ok : Comp Tryz.prog Tryz.f244 2 [4] g244 := ⟨_, [.t 4], rfl, by kernel_rfl, by decide, by kernel_rfl, by kernel_rfl, rfl, rfl⟩
/-- pianola/ir.Run$1 -/
def g245 : GFunc := ⟨1, (.seq (.reg fun _ fr h k =>
  obind2 (nBox (Tr.get .bad q0 fr) h) fun v0 h1 =>
  forceG v0 fun v => Tr.setK .bad v q1 fr fun f1 =>
  forceG (.bool false) fun v => Tr.setK .bad v q2 f1 fun f2 =>
  k f2 h1)
 (.seq (.reg fun call fr h k =>
  obind (rLdN 5 (Tr.get .bad q1 fr) h) fun v0 =>
  call q232 [v0] h fun v1 h2 =>
  obind (pNot v1) fun v2 =>
  forceG v2 fun v => Tr.setK .bad v q2 fr fun f2 =>
  k f2 h2)
 .ret)), resF [.t 2]⟩
theorem g245_ok : Comp Tryz.prog Tryz.f245 1 [1, 2] g245 := ⟨_, [.t 2], rfl, by kernel_rfl, by decide, by kernel_rfl, by kernel_rfl, rfl, rfl⟩
/-- (*pianola/ir.Regs).do -/
def g246 : GFunc := ⟨2, (.seq (.reg fun _ fr h k =>
  obind2 (nBox (Tr.get .bad q1 fr) h) fun v0 h1 =>
  forceG v0 fun v => Tr.setK .bad v q3 fr fun f3 =>
  k f3 h1)
 (.seq (.reg fun _ fr h k =>
  obind (pFa 2 (Tr.get .bad q3 fr)) fun v0 =>
  obind (rLd1 v0 h) fun v1 =>
  obind (pNilck (Tr.get .bad q0 fr)) fun v2 =>
  obind (pIdxA 40 1 v2 v1) fun v3 =>
  obind (rLd1 v3 h) fun v4 =>
  obind (pFa 3 (Tr.get .bad q3 fr)) fun v5 =>
  obind (rLd1 v5 h) fun v6 =>
  obind (pNilck (Tr.get .bad q0 fr)) fun v7 =>
  obind (pIdxA 40 1 v7 v6) fun v8 =>
  obind (rLd1 v8 h) fun v9 =>
  forceG v4 fun v => Tr.setK .bad v q4 fr fun f4 =>
  forceG v9 fun v => Tr.setK .bad v q5 f4 fun f5 =>
  k f5 h)
 (.seq (.reg fun _ fr h k =>
  obind (pFa 0 (Tr.get .bad q3 fr)) fun v0 =>
  obind (rLd1 v0 h) fun v1 =>
  forceG v1 fun v => Tr.setK .bad v q6 fr fun f6 =>
  k f6 h)
 (.block 0 (.seq (.reg fun _ fr h k =>
  obind (pEql (Tr.get .bad q6 fr) (.int .i64 (.ofNat 17))) fun v0 =>
  guardC v0 false h (fun k => k (Tr.get .bad q6 fr) h) fun v1 h2 =>
  guardC v0 false h2 (fun k => obind (pEql v1 (.int .i64 (.ofNat 18))) fun v => k v h2) fun v2 h3 =>
  obind (pPick v0 (.bool true) v2) fun v3 =>
  forceG v3 fun v => Tr.setK .bad v q30 fr fun f30 =>
  k f30 h3)
 (.cond 30 q30 (.reg fun call fr h k =>
  obind (pEql (Tr.get .bad q6 fr) (.int .i64 (.ofNat 17))) fun v0 =>
  call q261 [(Tr.get .bad q4 fr), (Tr.get .bad q5 fr), v0] h fun v1 h2 =>
  obind (pExt 0 v1) fun v2 =>
  obind (pExt 1 v1) fun v3 =>
  obind (pNilck (Tr.get .bad q0 fr)) fun v4 =>
  obind (pIdxA 40 1 v4 (.int .i64 (.ofNat 32))) fun v5 =>
  obind (wSt1 v5 v2 h2) fun h7 =>
  obind (pNilck (Tr.get .bad q0 fr)) fun v7 =>
  obind (pIdxA 40 1 v7 (.int .i64 (.ofNat 33))) fun v8 =>
  obind (wSt1 v8 v3 h7) fun h10 =>
  k fr h10)
 (.seq (.reg fun _ fr h k =>
  obind (pEql (Tr.get .bad q6 fr) (.int .i64 (.ofNat 19))) fun v0 =>
  guardC v0 false h (fun k => k (Tr.get .bad q6 fr) h) fun v1 h2 =>
  guardC v0 false h2 (fun k => obind (pEql v1 (.int .i64 (.ofNat 20))) fun v => k v h2) fun v2 h3 =>
  obind (pPick v0 (.bool true) v2) fun v3 =>
  forceG v3 fun v => Tr.setK .bad v q51 fr fun f51 =>
  k f51 h3)
 (.cond 51 q51 (.reg fun call fr h k =>
  obind (pEql (Tr.get .bad q6 fr) (.int .i64 (.ofNat 19))) fun v0 =>
  call q262 [(Tr.get .bad q4 fr), (Tr.get .bad q5 fr), v0] h fun v1 h2 =>
  obind (pExt 0 v1) fun v2 =>
  obind (pExt 1 v1) fun v3 =>
  obind (pNilck (Tr.get .bad q0 fr)) fun v4 =>
  obind (pIdxA 40 1 v4 (.int .i64 (.ofNat 33))) fun v5 =>
  obind (wSt1 v5 v2 h2) fun h7 =>
  obind (pNilck (Tr.get .bad q0 fr)) fun v7 =>
  obind (pIdxA 40 1 v7 (.int .i64 (.ofNat 32))) fun v8 =>
  obind (wSt1 v8 v3 h7) fun h10 =>
  k fr h10)
 (.seq (.reg fun _ fr h k =>
  obind (pEql (Tr.get .bad q6 fr) (.int .i64 (.ofNat 0))) fun v0 =>
  guardC v0 false h (fun k => obind (pFa 1 (Tr.get .bad q3 fr)) fun v => k v h) fun v1 h2 =>
  guardC v0 false h2 (fun k => obind (rLd1 v1 h2) fun v => k v h2) fun v2 h3 =>
  guardC v0 false h3 (fun k => obind (pEql v2 (.int .i64 (.ofNat 0))) fun v => k v h3) fun v3 h4 =>
  obind (pPick v0 (.bool true) v3) fun v4 =>
  guardC v4 false h4 (fun k => k (Tr.get .bad q6 fr) h4) fun v5 h6 =>
  guardC v4 false h6 (fun k => obind (pEql v5 (.int .i64 (.ofNat 21))) fun v => k v h6) fun v6 h7 =>
  guardC v4 false h7 (fun k => k v6 h7) fun v7 h8 =>
  guardC v7 false h8 (fun k => k (Tr.get .bad q6 fr) h8) fun v8 h9 =>
  guardC v7 false h9 (fun k => obind (pEql v8 (.int .i64 (.ofNat 22))) fun v => k v h9) fun v9 h10 =>
  guardC v4 false h10 (fun k => obind (pPick v7 (.bool true) v9) fun v => k v h10) fun v10 h11 =>
  guardC v4 false h11 (fun k => k v10 h11) fun v11 h12 =>
  guardC v11 true h12 (fun k => k (Tr.get .bad q5 fr) h12) fun v12 h13 =>
  guardC v11 true h13 (fun k => obind (pEql v12 (.int .u32 (.ofNat 0))) fun v => k v h13) fun v13 h14 =>
  guardC v11 true h14 (fun k => k (Tr.get .bad q6 fr) h14) fun v14 h15 =>
  guardC v11 true h15 (fun k => obind (pEql v14 (.int .i64 (.ofNat 21))) fun v => k v h15) fun v15 h16 =>
  guardC v11 true h16 (fun k => obind (pNeqB v13 v15) fun v => k v h16) fun v16 h17 =>
  guardC v4 false h17 (fun k => obind (pPick v11 v16 (.bool false)) fun v => k v h17) fun v17 h18 =>
  obind (pPick v4 (.bool true) v17) fun v18 =>
  forceG v18 fun v => Tr.setK .bad v q72 fr fun f72 =>
  k f72 h18)
 (.cond 72 q72 .skip
 (.reg fun call fr h k =>
  obind (pFa 1 (Tr.get .bad q3 fr)) fun v0 =>
  obind (rLd1 v0 h) fun v1 =>
  obind (rLdN 5 (Tr.get .bad q3 fr) h) fun v2 =>
  call q263 [v2, (Tr.get .bad q4 fr), (Tr.get .bad q5 fr)] h fun v3 h4 =>
  obind (pNilck (Tr.get .bad q0 fr)) fun v4 =>
  obind (pIdxA 40 1 v4 v1) fun v5 =>
  obind (wSt1 v5 v3 h4) fun h7 =>
  chk v1 (rLd1 v0 h4) <|
  k fr h7))))))))))), resF []⟩
theorem g246_ok : Comp Tryz.prog Tryz.f246 2 [3, 4, 5, 6, 30, 51, 72] g246 := ⟨_, [], rfl, by kernel_rfl, by decide, by kernel_rfl, by kernel_rfl, rfl, rfl⟩
/-- slices.insertionSortOrdered[int] -/
def g249 : GFunc := ⟨3, (.seq (.reg fun _ fr h k =>
  obind (pAdd (Tr.get .bad q1 fr) (.int .i64 (.ofNat 1))) fun v0 =>
  forceG v0 fun v => Tr.setK .bad v q6 fr fun f6 =>
  k f6 h)
 (.block 0 (.loop (.seq (.seq (.reg fun _ fr h k =>
  obind (pLss (Tr.get .bad q6 fr) (Tr.get .bad q2 fr)) fun v0 =>
  forceG v0 fun v => Tr.setK .bad v q12 fr fun f12 =>
  k f12 h)
 (.cond 12 q12 .skip
 (.exit 0)))
 (.seq (.block 1 (.seq (.reg fun _ fr h k =>
  forceG (Tr.get .bad q6 fr) fun v => Tr.setK .bad v q7 fr fun f7 =>
  k f7 h)
 (.block 2 (.loop (.seq (.seq (.reg fun call fr h k =>
  obind (pGtr (Tr.get .bad q7 fr) (Tr.get .bad q1 fr)) fun v0 =>
  guardC v0 true h (fun k => k (Tr.get .bad q0 fr) h) fun v1 h2 =>
  guardC v0 true h2 (fun k => k (Tr.get .bad q7 fr) h2) fun v2 h3 =>
  guardC v0 true h3 (fun k => obind (pIdxS 1 v1 v2) fun v => k v h3) fun v3 h4 =>
  guardC v0 true h4 (fun k => obind (rLd1 v3 h4) fun v => k v h4) fun v4 h5 =>
  guardC v0 true h5 (fun k => k (Tr.get .bad q0 fr) h5) fun v5 h6 =>
  guardC v0 true h6 (fun k => k (Tr.get .bad q7 fr) h6) fun v6 h7 =>
  guardC v0 true h7 (fun k => obind (pSub v6 (.int .i64 (.ofNat 1))) fun v => k v h7) fun v7 h8 =>
  guardC v0 true h8 (fun k => obind (pIdxS 1 v5 v7) fun v => k v h8) fun v8 h9 =>
  guardC v0 true h9 (fun k => obind (rLd1 v8 h9) fun v => k v h9) fun v9 h10 =>
  guardC v0 true h10 (fun k => call q255 [v4, v9] h10 k) fun v10 h11 =>
  obind (pPick v0 v10 (.bool false)) fun v11 =>
  forceG v11 fun v => Tr.setK .bad v q30 fr fun f30 =>
  k f30 h11)
 (.cond 30 q30 .skip
 (.exit 2)))
 (.seq (.block 3 (.reg fun _ fr h k =>
  obind (pSub (Tr.get .bad q7 fr) (.int .i64 (.ofNat 1))) fun v0 =>
  obind (pSub (Tr.get .bad q7 fr) (.int .i64 (.ofNat 1))) fun v1 =>
  obind (pIdxS 1 (Tr.get .bad q0 fr) v1) fun v2 =>
  obind (rLd1 v2 h) fun v3 =>
  obind (pIdxS 1 (Tr.get .bad q0 fr) (Tr.get .bad q7 fr)) fun v4 =>
  obind (rLd1 v4 h) fun v5 =>
  obind (pIdxS 1 (Tr.get .bad q0 fr) (Tr.get .bad q7 fr)) fun v6 =>
  obind (wSt1 v6 v3 h) fun h8 =>
  obind (pIdxS 1 (Tr.get .bad q0 fr) v0) fun v8 =>
  obind (wSt1 v8 v5 h8) fun h10 =>
  k fr h10))
 (.reg fun _ fr h k =>
  obind (pSub (Tr.get .bad q7 fr) (.int .i64 (.ofNat 1))) fun v0 =>
  forceG v0 fun v => Tr.setK .bad v q7 fr fun f7 =>
  k f7 h)))))))
 (.reg fun _ fr h k =>
  obind (pAdd (Tr.get .bad q6 fr) (.int .i64 (.ofNat 1))) fun v0 =>
  forceG v0 fun v => Tr.setK .bad v q6 fr fun f6 =>
  k f6 h)))))), resF []⟩
theorem g249_ok : Comp Tryz.prog Tryz.f249 3 [6, 7, 12, 30] g249 := ⟨_, [], rfl, by kernel_rfl, by decide, by kernel_rfl, by kernel_rfl, rfl, rfl⟩
/-- slices.heapSortOrdered[int] -/
def g250 : GFunc := ⟨3, (.seq (.reg fun _ fr h k =>
  forceG (Tr.get .bad q1 fr) fun v => Tr.setK .bad v q6 fr fun f6 =>
  k f6 h)
 (.seq (.reg fun _ fr h k =>
  forceG (.int .i64 (.ofNat 0)) fun v => Tr.setK .bad v q7 fr fun f7 =>
  k f7 h)
 (.seq (.reg fun _ fr h k =>
  obind (pSub (Tr.get .bad q2 fr) (Tr.get .bad q1 fr)) fun v0 =>
  forceG v0 fun v => Tr.setK .bad v q8 fr fun f8 =>
  k f8 h)
 (.seq (.seq (.reg fun _ fr h k =>
  obind (pSub (Tr.get .bad q8 fr) (.int .i64 (.ofNat 1))) fun v0 =>
  obind (pQuo v0 (.int .i64 (.ofNat 2))) fun v1 =>
  forceG v1 fun v => Tr.setK .bad v q9 fr fun f9 =>
  k f9 h)
 (.block 0 (.loop (.seq (.seq (.reg fun _ fr h k =>
  obind (pGeq (Tr.get .bad q9 fr) (.int .i64 (.ofNat 0))) fun v0 =>
  forceG v0 fun v => Tr.setK .bad v q19 fr fun f19 =>
  k f19 h)
 (.cond 19 q19 .skip
 (.exit 0)))
 (.seq (.block 1 (.reg fun call fr h k =>
  call q265 [(Tr.get .bad q0 fr), (Tr.get .bad q9 fr), (Tr.get .bad q8 fr), (Tr.get .bad q6 fr)] h fun _ h1 =>
  k fr h1))
 (.reg fun _ fr h k =>
  obind (pSub (Tr.get .bad q9 fr) (.int .i64 (.ofNat 1))) fun v0 =>
  forceG v0 fun v => Tr.setK .bad v q9 fr fun f9 =>
  k f9 h))))))
 (.seq (.reg fun _ fr h k =>
  obind (pSub (Tr.get .bad q8 fr) (.int .i64 (.ofNat 1))) fun v0 =>
  forceG v0 fun v => Tr.setK .bad v q10 fr fun f10 =>
  k f10 h)
 (.block 2 (.loop (.seq (.seq (.reg fun _ fr h k =>
  obind (pGeq (Tr.get .bad q10 fr) (.int .i64 (.ofNat 0))) fun v0 =>
  forceG v0 fun v => Tr.setK .bad v q30 fr fun f30 =>
  k f30 h)
 (.cond 30 q30 .skip
 (.exit 2)))
 (.seq (.block 3 (.seq (.reg fun _ fr h k =>
  obind (pAdd (Tr.get .bad q6 fr) (Tr.get .bad q10 fr)) fun v0 =>
  obind (pAdd (Tr.get .bad q6 fr) (Tr.get .bad q10 fr)) fun v1 =>
  obind (pIdxS 1 (Tr.get .bad q0 fr) v1) fun v2 =>
  obind (rLd1 v2 h) fun v3 =>
  obind (pIdxS 1 (Tr.get .bad q0 fr) (Tr.get .bad q6 fr)) fun v4 =>
  obind (rLd1 v4 h) fun v5 =>
  obind (pIdxS 1 (Tr.get .bad q0 fr) (Tr.get .bad q6 fr)) fun v6 =>
  obind (wSt1 v6 v3 h) fun h8 =>
  obind (pIdxS 1 (Tr.get .bad q0 fr) v0) fun v8 =>
  obind (wSt1 v8 v5 h8) fun h10 =>
  k fr h10)
 (.reg fun call fr h k =>
  call q265 [(Tr.get .bad q0 fr), (Tr.get .bad q7 fr), (Tr.get .bad q10 fr), (Tr.get .bad q6 fr)] h fun _ h1 =>
  k fr h1)))
 (.reg fun _ fr h k =>
  obind (pSub (Tr.get .bad q10 fr) (.int .i64 (.ofNat 1))) fun v0 =>
  forceG v0 fun v => Tr.setK .bad v q10 fr fun f10 =>
  k f10 h)))))))))), resF []⟩
theorem g250_ok : Comp Tryz.prog Tryz.f250 3 [6, 7, 8, 9, 10, 19, 30] g250 := ⟨_, [], rfl, by kernel_rfl, by decide, by kernel_rfl, by kernel_rfl, rfl, rfl⟩
/-- slices.breakPatternsOrdered[int] -/
def g251 : GFunc := ⟨3, (.seq (.reg fun _ fr h k =>
  obind (pSub (Tr.get .bad q2 fr) (Tr.get .bad q1 fr)) fun v0 =>
  forceG v0 fun v => Tr.setK .bad v q6 fr fun f6 =>
  k f6 h)
 (.seq (.reg fun _ fr h k =>
  obind (pGeq (Tr.get .bad q6 fr) (.int .i64 (.ofNat 8))) fun v0 =>
  forceG v0 fun v => Tr.setK .bad v q15 fr fun f15 =>
  k f15 h)
 (.cond 15 q15 (.seq (.reg fun _ fr h k =>
  obind (pConv .u64 (Tr.get .bad q6 fr)) fun v0 =>
  obind2 (nAlloc [.int .u64 (.ofNat 0)] h) fun v1 h2 =>
  obind (wSt1 v1 v0 h2) fun h3 =>
  forceG v1 fun v => Tr.setK .bad v q7 fr fun f7 =>
  k f7 h3)
 (.seq (.reg fun call fr h k =>
  call q266 [(Tr.get .bad q6 fr)] h fun v0 h1 =>
  forceG v0 fun v => Tr.setK .bad v q8 fr fun f8 =>
  k f8 h1)
 (.seq (.reg fun _ fr h k =>
  obind (pQuo (Tr.get .bad q6 fr) (.int .i64 (.ofNat 4))) fun v0 =>
  obind (pMul v0 (.int .i64 (.ofNat 2))) fun v1 =>
  obind (pAdd (Tr.get .bad q1 fr) v1) fun v2 =>
  obind (pSub v2 (.int .i64 (.ofNat 1))) fun v3 =>
  forceG v3 fun v => Tr.setK .bad v q9 fr fun f9 =>
  k f9 h)
 (.block 0 (.loop (.seq (.seq (.reg fun _ fr h k =>
  obind (pQuo (Tr.get .bad q6 fr) (.int .i64 (.ofNat 4))) fun v0 =>
  obind (pMul v0 (.int .i64 (.ofNat 2))) fun v1 =>
  obind (pAdd (Tr.get .bad q1 fr) v1) fun v2 =>
  obind (pAdd v2 (.int .i64 (.ofNat 1))) fun v3 =>
  obind (pLeq (Tr.get .bad q9 fr) v3) fun v4 =>
  forceG v4 fun v => Tr.setK .bad v q33 fr fun f33 =>
  k f33 h)
 (.cond 33 q33 .skip
 (.exit 0)))
 (.seq (.block 1 (.seq (.reg fun call fr h k =>
  call q267 [(Tr.get .bad q7 fr)] h fun v0 h1 =>
  obind (pSub (Tr.get .bad q8 fr) (.int .u64 (.ofNat 1))) fun v1 =>
  obind (pAnd v0 v1) fun v2 =>
  obind (pConv .i64 v2) fun v3 =>
  forceG v3 fun v => Tr.setK .bad v q10 fr fun f10 =>
  k f10 h1)
 (.seq (.seq (.reg fun _ fr h k =>
  obind (pGeq (Tr.get .bad q10 fr) (Tr.get .bad q6 fr)) fun v0 =>
  forceG v0 fun v => Tr.setK .bad v q43 fr fun f43 =>
  k f43 h)
 (.cond 43 q43 (.reg fun _ fr h k =>
  obind (pSub (Tr.get .bad q10 fr) (Tr.get .bad q6 fr)) fun v0 =>
  forceG v0 fun v => Tr.setK .bad v q10 fr fun f10 =>
  k f10 h)
 .skip))
 (.reg fun _ fr h k =>
  obind (pAdd (Tr.get .bad q1 fr) (Tr.get .bad q10 fr)) fun v0 =>
  obind (pAdd (Tr.get .bad q1 fr) (Tr.get .bad q10 fr)) fun v1 =>
  obind (pIdxS 1 (Tr.get .bad q0 fr) v1) fun v2 =>
  obind (rLd1 v2 h) fun v3 =>
  obind (pIdxS 1 (Tr.get .bad q0 fr) (Tr.get .bad q9 fr)) fun v4 =>
  obind (rLd1 v4 h) fun v5 =>
  obind (pIdxS 1 (Tr.get .bad q0 fr) (Tr.get .bad q9 fr)) fun v6 =>
  obind (wSt1 v6 v3 h) fun h8 =>
  obind (pIdxS 1 (Tr.get .bad q0 fr) v0) fun v8 =>
  obind (wSt1 v8 v5 h8) fun h10 =>
  k fr h10))))
 (.reg fun _ fr h k =>
  obind (pAdd (Tr.get .bad q9 fr) (.int .i64 (.ofNat 1))) fun v0 =>
  forceG v0 fun v => Tr.setK .bad v q9 fr fun f9 =>
  k f9 h))))))))
 .skip))), resF []⟩
theorem g251_ok : Comp Tryz.prog Tryz.f251 3 [6, 7, 8, 9, 10, 15, 33, 43] g251 := ⟨_, [], rfl, by kernel_rfl, by decide, by kernel_rfl, by kernel_rfl, rfl, rfl⟩
/-- slices.choosePivotOrdered[int] -/
def g252 : GFunc := ⟨3, (.seq (.reg fun _ fr h k =>
  forceG (.int .i64 (.ofNat 0)) fun v => Tr.setK .bad v q6 fr fun f6 =>
  forceG (.int .i64 (.ofNat 0)) fun v => Tr.setK .bad v q7 f6 fun f7 =>
  k f7 h)
 (.seq (.reg fun _ fr h k =>
  obind (pSub (Tr.get .bad q2 fr) (Tr.get .bad q1 fr)) fun v0 =>
  forceG v0 fun v => Tr.setK .bad v q8 fr fun f8 =>
  k f8 h)
 (.seq (.reg fun _ fr h k =>
  obind2 (nAlloc [.int .i64 (.ofNat 0)] h) fun v0 h1 =>
  forceG v0 fun v => Tr.setK .bad v q9 fr fun f9 =>
  k f9 h1)
 (.seq (.reg fun _ fr h k =>
  obind (pQuo (Tr.get .bad q8 fr) (.int .i64 (.ofNat 4))) fun v0 =>
  obind (pMul v0 (.int .i64 (.ofNat 1))) fun v1 =>
  obind (pAdd (Tr.get .bad q1 fr) v1) fun v2 =>
  forceG v2 fun v => Tr.setK .bad v q10 fr fun f10 =>
  k f10 h)
 (.seq (.reg fun _ fr h k =>
  obind (pQuo (Tr.get .bad q8 fr) (.int .i64 (.ofNat 4))) fun v0 =>
  obind (pMul v0 (.int .i64 (.ofNat 2))) fun v1 =>
  obind (pAdd (Tr.get .bad q1 fr) v1) fun v2 =>
  forceG v2 fun v => Tr.setK .bad v q11 fr fun f11 =>
  k f11 h)
 (.seq (.reg fun _ fr h k =>
  obind (pQuo (Tr.get .bad q8 fr) (.int .i64 (.ofNat 4))) fun v0 =>
  obind (pMul v0 (.int .i64 (.ofNat 3))) fun v1 =>
  obind (pAdd (Tr.get .bad q1 fr) v1) fun v2 =>
  forceG v2 fun v => Tr.setK .bad v q12 fr fun f12 =>
  k f12 h)
 (.seq (.seq (.reg fun _ fr h k =>
  obind (pGeq (Tr.get .bad q8 fr) (.int .i64 (.ofNat 8))) fun v0 =>
  forceG v0 fun v => Tr.setK .bad v q32 fr fun f32 =>
  k f32 h)
 (.cond 32 q32 (.seq (.seq (.reg fun _ fr h k =>
  obind (pGeq (Tr.get .bad q8 fr) (.int .i64 (.ofNat 50))) fun v0 =>
  forceG v0 fun v => Tr.setK .bad v q34 fr fun f34 =>
  k f34 h)
 (.cond 34 q34 (.seq (.reg fun call fr h k =>
  call q268 [(Tr.get .bad q0 fr), (Tr.get .bad q10 fr), (Tr.get .bad q9 fr)] h fun v0 h1 =>
  forceG v0 fun v => Tr.setK .bad v q10 fr fun f10 =>
  k f10 h1)
 (.seq (.reg fun call fr h k =>
  call q268 [(Tr.get .bad q0 fr), (Tr.get .bad q11 fr), (Tr.get .bad q9 fr)] h fun v0 h1 =>
  forceG v0 fun v => Tr.setK .bad v q11 fr fun f11 =>
  k f11 h1)
 (.reg fun call fr h k =>
  call q268 [(Tr.get .bad q0 fr), (Tr.get .bad q12 fr), (Tr.get .bad q9 fr)] h fun v0 h1 =>
  forceG v0 fun v => Tr.setK .bad v q12 fr fun f12 =>
  k f12 h1)))
 .skip))
 (.reg fun call fr h k =>
  call q269 [(Tr.get .bad q0 fr), (Tr.get .bad q10 fr), (Tr.get .bad q11 fr), (Tr.get .bad q12 fr), (Tr.get .bad q9 fr)] h fun v0 h1 =>
  forceG v0 fun v => Tr.setK .bad v q11 fr fun f11 =>
  k f11 h1))
 .skip))
 (.seq (.reg fun _ fr h k =>
  obind (rLd1 (Tr.get .bad q9 fr) h) fun v0 =>
  forceG v0 fun v => Tr.setK .bad v q49 fr fun f49 =>
  k f49 h)
 (.block 0 (.seq (.reg fun _ fr h k =>
  obind (pEql (Tr.get .bad q49 fr) (.int .i64 (.ofNat 0))) fun v0 =>
  forceG v0 fun v => Tr.setK .bad v q51 fr fun f51 =>
  k f51 h)
 (.cond 51 q51 (.seq (.reg fun _ fr h k =>
  forceG (Tr.get .bad q11 fr) fun v => Tr.setK .bad v q6 fr fun f6 =>
  forceG (.int .i64 (.ofNat 1)) fun v => Tr.setK .bad v q7 f6 fun f7 =>
  k f7 h)
 .ret)
 (.seq (.reg fun _ fr h k =>
  obind (pEql (Tr.get .bad q49 fr) (.int .i64 (.ofNat 12))) fun v0 =>
  forceG v0 fun v => Tr.setK .bad v q54 fr fun f54 =>
  k f54 h)
 (.cond 54 q54 (.seq (.reg fun _ fr h k =>
  forceG (Tr.get .bad q11 fr) fun v => Tr.setK .bad v q6 fr fun f6 =>
  forceG (.int .i64 (.ofNat 2)) fun v => Tr.setK .bad v q7 f6 fun f7 =>
  k f7 h)
 .ret)
 (.seq (.reg fun _ fr h k =>
  forceG (Tr.get .bad q11 fr) fun v => Tr.setK .bad v q6 fr fun f6 =>
  forceG (.int .i64 (.ofNat 0)) fun v => Tr.setK .bad v q7 f6 fun f7 =>
  k f7 h)
 .ret)))))))))))))), resF [.t 6, .t 7]⟩
theorem g252_ok : Comp Tryz.prog Tryz.f252 3 [6, 7, 8, 9, 10, 11, 12, 32, 34, 49, 51, 54] g252 := ⟨_, [.t 6, .t 7], rfl, by kernel_rfl, by decide, by kernel_rfl, by kernel_rfl, rfl, rfl⟩
/-- slices.reverseRangeOrdered[int] -/
def g253 : GFunc := ⟨3, (.seq (.reg fun _ fr h k =>
  forceG (Tr.get .bad q1 fr) fun v => Tr.setK .bad v q6 fr fun f6 =>
  k f6 h)
 (.seq (.reg fun _ fr h k =>
  obind (pSub (Tr.get .bad q2 fr) (.int .i64 (.ofNat 1))) fun v0 =>
  forceG v0 fun v => Tr.setK .bad v q7 fr fun f7 =>
  k f7 h)
 (.block 0 (.loop (.seq (.seq (.reg fun _ fr h k =>
  obind (pLss (Tr.get .bad q6 fr) (Tr.get .bad q7 fr)) fun v0 =>
  forceG v0 fun v => Tr.setK .bad v q13 fr fun f13 =>
  k f13 h)
 (.cond 13 q13 .skip
 (.exit 0)))
 (.block 1 (.seq (.reg fun _ fr h k =>
  obind (pIdxS 1 (Tr.get .bad q0 fr) (Tr.get .bad q7 fr)) fun v0 =>
  obind (rLd1 v0 h) fun v1 =>
  obind (pIdxS 1 (Tr.get .bad q0 fr) (Tr.get .bad q6 fr)) fun v2 =>
  obind (rLd1 v2 h) fun v3 =>
  obind (pIdxS 1 (Tr.get .bad q0 fr) (Tr.get .bad q6 fr)) fun v4 =>
  obind (wSt1 v4 v1 h) fun h6 =>
  obind (pIdxS 1 (Tr.get .bad q0 fr) (Tr.get .bad q7 fr)) fun v6 =>
  obind (wSt1 v6 v3 h6) fun h8 =>
  k fr h8)
 (.seq (.reg fun _ fr h k =>
  obind (pAdd (Tr.get .bad q6 fr) (.int .i64 (.ofNat 1))) fun v0 =>
  forceG v0 fun v => Tr.setK .bad v q6 fr fun f6 =>
  k f6 h)
 (.reg fun _ fr h k =>
  obind (pSub (Tr.get .bad q7 fr) (.int .i64 (.ofNat 1))) fun v0 =>
  forceG v0 fun v => Tr.setK .bad v q7 fr fun f7 =>
  k f7 h))))))))), resF []⟩
theorem g253_ok : Comp Tryz.prog Tryz.f253 3 [6, 7, 13] g253 := ⟨_, [], rfl, by kernel_rfl, by decide, by kernel_rfl, by kernel_rfl, rfl, rfl⟩
/-- slices.partialInsertionSortOrdered[int] -/
def g254 : GFunc := ⟨3, (.seq (.reg fun _ fr h k =>
  forceG (.bool false) fun v => Tr.setK .bad v q6 fr fun f6 =>
  k f6 h)
 (.seq (.reg fun _ fr h k =>
  obind (pAdd (Tr.get .bad q1 fr) (.int .i64 (.ofNat 1))) fun v0 =>
  forceG v0 fun v => Tr.setK .bad v q7 fr fun f7 =>
  k f7 h)
 (.seq (.seq (.reg fun _ fr h k =>
  forceG (.int .i64 (.ofNat 0)) fun v => Tr.setK .bad v q8 fr fun f8 =>
  k f8 h)
 (.block 0 (.loop (.seq (.seq (.reg fun _ fr h k =>
  obind (pLss (Tr.get .bad q8 fr) (.int .i64 (.ofNat 5))) fun v0 =>
  forceG v0 fun v => Tr.setK .bad v q14 fr fun f14 =>
  k f14 h)
 (.cond 14 q14 .skip
 (.exit 0)))
 (.seq (.block 1 (.seq (.block 2 (.loop (.seq (.seq (.reg fun call fr h k =>
  obind (pLss (Tr.get .bad q7 fr) (Tr.get .bad q2 fr)) fun v0 =>
  guardC v0 true h (fun k => k (Tr.get .bad q0 fr) h) fun v1 h2 =>
  guardC v0 true h2 (fun k => k (Tr.get .bad q7 fr) h2) fun v2 h3 =>
  guardC v0 true h3 (fun k => obind (pIdxS 1 v1 v2) fun v => k v h3) fun v3 h4 =>
  guardC v0 true h4 (fun k => obind (rLd1 v3 h4) fun v => k v h4) fun v4 h5 =>
  guardC v0 true h5 (fun k => k (Tr.get .bad q0 fr) h5) fun v5 h6 =>
  guardC v0 true h6 (fun k => k (Tr.get .bad q7 fr) h6) fun v6 h7 =>
  guardC v0 true h7 (fun k => obind (pSub v6 (.int .i64 (.ofNat 1))) fun v => k v h7) fun v7 h8 =>
  guardC v0 true h8 (fun k => obind (pIdxS 1 v5 v7) fun v => k v h8) fun v8 h9 =>
  guardC v0 true h9 (fun k => obind (rLd1 v8 h9) fun v => k v h9) fun v9 h10 =>
  guardC v0 true h10 (fun k => call q255 [v4, v9] h10 k) fun v10 h11 =>
  guardC v0 true h11 (fun k => obind (pNot v10) fun v => k v h11) fun v11 h12 =>
  obind (pPick v0 v11 (.bool false)) fun v12 =>
  forceG v12 fun v => Tr.setK .bad v q32 fr fun f32 =>
  k f32 h12)
 (.cond 32 q32 .skip
 (.exit 2)))
 (.block 3 (.reg fun _ fr h k =>
  obind (pAdd (Tr.get .bad q7 fr) (.int .i64 (.ofNat 1))) fun v0 =>
  forceG v0 fun v => Tr.setK .bad v q7 fr fun f7 =>
  k f7 h)))))
 (.seq (.seq (.reg fun _ fr h k =>
  obind (pEql (Tr.get .bad q7 fr) (Tr.get .bad q2 fr)) fun v0 =>
  forceG v0 fun v => Tr.setK .bad v q37 fr fun f37 =>
  k f37 h)
 (.cond 37 q37 (.seq (.reg fun _ fr h k =>
  forceG (.bool true) fun v => Tr.setK .bad v q6 fr fun f6 =>
  k f6 h)
 .ret)
 .skip))
 (.seq (.seq (.reg fun _ fr h k =>
  obind (pSub (Tr.get .bad q2 fr) (Tr.get .bad q1 fr)) fun v0 =>
  obind (pLss v0 (.int .i64 (.ofNat 50))) fun v1 =>
  forceG v1 fun v => Tr.setK .bad v q41 fr fun f41 =>
  k f41 h)
 (.cond 41 q41 (.seq (.reg fun _ fr h k =>
  forceG (.bool false) fun v => Tr.setK .bad v q6 fr fun f6 =>
  k f6 h)
 .ret)
 .skip))
 (.seq (.reg fun _ fr h k =>
  obind (pSub (Tr.get .bad q7 fr) (.int .i64 (.ofNat 1))) fun v0 =>
  obind (pSub (Tr.get .bad q7 fr) (.int .i64 (.ofNat 1))) fun v1 =>
  obind (pIdxS 1 (Tr.get .bad q0 fr) v1) fun v2 =>
  obind (rLd1 v2 h) fun v3 =>
  obind (pIdxS 1 (Tr.get .bad q0 fr) (Tr.get .bad q7 fr)) fun v4 =>
  obind (rLd1 v4 h) fun v5 =>
  obind (pIdxS 1 (Tr.get .bad q0 fr) (Tr.get .bad q7 fr)) fun v6 =>
  obind (wSt1 v6 v3 h) fun h8 =>
  obind (pIdxS 1 (Tr.get .bad q0 fr) v0) fun v8 =>
  obind (wSt1 v8 v5 h8) fun h10 =>
  k fr h10)
 (.seq (.seq (.reg fun _ fr h k =>
  obind (pSub (Tr.get .bad q7 fr) (Tr.get .bad q1 fr)) fun v0 =>
  obind (pGeq v0 (.int .i64 (.ofNat 2))) fun v1 =>
  forceG v1 fun v => Tr.setK .bad v q61 fr fun f61 =>
  k f61 h)
 (.cond 61 q61 (.seq (.reg fun _ fr h k =>
  obind (pSub (Tr.get .bad q7 fr) (.int .i64 (.ofNat 1))) fun v0 =>
  forceG v0 fun v => Tr.setK .bad v q9 fr fun f9 =>
  k f9 h)
 (.block 4 (.loop (.seq (.seq (.reg fun _ fr h k =>
  obind (pGeq (Tr.get .bad q9 fr) (.int .i64 (.ofNat 1))) fun v0 =>
  forceG v0 fun v => Tr.setK .bad v q65 fr fun f65 =>
  k f65 h)
 (.cond 65 q65 .skip
 (.exit 4)))
 (.seq (.block 5 (.seq (.seq (.reg fun call fr h k =>
  obind (pIdxS 1 (Tr.get .bad q0 fr) (Tr.get .bad q9 fr)) fun v0 =>
  obind (rLd1 v0 h) fun v1 =>
  obind (pSub (Tr.get .bad q9 fr) (.int .i64 (.ofNat 1))) fun v2 =>
  obind (pIdxS 1 (Tr.get .bad q0 fr) v2) fun v3 =>
  obind (rLd1 v3 h) fun v4 =>
  call q255 [v1, v4] h fun v5 h6 =>
  obind (pNot v5) fun v6 =>
  forceG v6 fun v => Tr.setK .bad v q78 fr fun f78 =>
  k f78 h6)
 (.cond 78 q78 (.exit 4)
 .skip))
 (.reg fun _ fr h k =>
  obind (pSub (Tr.get .bad q9 fr) (.int .i64 (.ofNat 1))) fun v0 =>
  obind (pSub (Tr.get .bad q9 fr) (.int .i64 (.ofNat 1))) fun v1 =>
  obind (pIdxS 1 (Tr.get .bad q0 fr) v1) fun v2 =>
  obind (rLd1 v2 h) fun v3 =>
  obind (pIdxS 1 (Tr.get .bad q0 fr) (Tr.get .bad q9 fr)) fun v4 =>
  obind (rLd1 v4 h) fun v5 =>
  obind (pIdxS 1 (Tr.get .bad q0 fr) (Tr.get .bad q9 fr)) fun v6 =>
  obind (wSt1 v6 v3 h) fun h8 =>
  obind (pIdxS 1 (Tr.get .bad q0 fr) v0) fun v8 =>
  obind (wSt1 v8 v5 h8) fun h10 =>
  k fr h10)))
 (.reg fun _ fr h k =>
  obind (pSub (Tr.get .bad q9 fr) (.int .i64 (.ofNat 1))) fun v0 =>
  forceG v0 fun v => Tr.setK .bad v q9 fr fun f9 =>
  k f9 h))))))
 .skip))
 (.seq (.reg fun _ fr h k =>
  obind (pSub (Tr.get .bad q2 fr) (Tr.get .bad q7 fr)) fun v0 =>
  obind (pGeq v0 (.int .i64 (.ofNat 2))) fun v1 =>
  forceG v1 fun v => Tr.setK .bad v q98 fr fun f98 =>
  k f98 h)
 (.cond 98 q98 (.seq (.reg fun _ fr h k =>
  obind (pAdd (Tr.get .bad q7 fr) (.int .i64 (.ofNat 1))) fun v0 =>
  forceG v0 fun v => Tr.setK .bad v q10 fr fun f10 =>
  k f10 h)
 (.block 6 (.loop (.seq (.seq (.reg fun _ fr h k =>
  obind (pLss (Tr.get .bad q10 fr) (Tr.get .bad q2 fr)) fun v0 =>
  forceG v0 fun v => Tr.setK .bad v q103 fr fun f103 =>
  k f103 h)
 (.cond 103 q103 .skip
 (.exit 6)))
 (.seq (.block 7 (.seq (.seq (.reg fun call fr h k =>
  obind (pIdxS 1 (Tr.get .bad q0 fr) (Tr.get .bad q10 fr)) fun v0 =>
  obind (rLd1 v0 h) fun v1 =>
  obind (pSub (Tr.get .bad q10 fr) (.int .i64 (.ofNat 1))) fun v2 =>
  obind (pIdxS 1 (Tr.get .bad q0 fr) v2) fun v3 =>
  obind (rLd1 v3 h) fun v4 =>
  call q255 [v1, v4] h fun v5 h6 =>
  obind (pNot v5) fun v6 =>
  forceG v6 fun v => Tr.setK .bad v q116 fr fun f116 =>
  k f116 h6)
 (.cond 116 q116 (.exit 6)
 .skip))
 (.reg fun _ fr h k =>
  obind (pSub (Tr.get .bad q10 fr) (.int .i64 (.ofNat 1))) fun v0 =>
  obind (pSub (Tr.get .bad q10 fr) (.int .i64 (.ofNat 1))) fun v1 =>
  obind (pIdxS 1 (Tr.get .bad q0 fr) v1) fun v2 =>
  obind (rLd1 v2 h) fun v3 =>
  obind (pIdxS 1 (Tr.get .bad q0 fr) (Tr.get .bad q10 fr)) fun v4 =>
  obind (rLd1 v4 h) fun v5 =>
  obind (pIdxS 1 (Tr.get .bad q0 fr) (Tr.get .bad q10 fr)) fun v6 =>
  obind (wSt1 v6 v3 h) fun h8 =>
  obind (pIdxS 1 (Tr.get .bad q0 fr) v0) fun v8 =>
  obind (wSt1 v8 v5 h8) fun h10 =>
  k fr h10)))
 (.reg fun _ fr h k =>
  obind (pAdd (Tr.get .bad q10 fr) (.int .i64 (.ofNat 1))) fun v0 =>
  forceG v0 fun v => Tr.setK .bad v q10 fr fun f10 =>
  k f10 h))))))
 .skip))))))))
 (.reg fun _ fr h k =>
  obind (pAdd (Tr.get .bad q8 fr) (.int .i64 (.ofNat 1))) fun v0 =>
  forceG v0 fun v => Tr.setK .bad v q8 fr fun f8 =>
  k f8 h))))))
 (.seq (.reg fun _ fr h k =>
  forceG (.bool false) fun v => Tr.setK .bad v q6 fr fun f6 =>
  k f6 h)
 .ret)))), resF [.t 6]⟩
theorem g254_ok : Comp Tryz.prog Tryz.f254 3 [6, 7, 8, 9, 10, 14, 32, 37, 41, 61, 65, 78, 98, 103, 116] g254 := ⟨_, [.t 6], rfl, by kernel_rfl, by decide, by kernel_rfl, by kernel_rfl, rfl, rfl⟩
end
end Go.Ev
