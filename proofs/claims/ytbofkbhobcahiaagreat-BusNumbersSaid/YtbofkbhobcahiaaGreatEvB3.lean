/- Ghost code of the Go functions, printed by a program of this session (genfiles.py). -/
import Derived.Test.YtbofkbhobcahiaaGreatEvComp
import Derived.Test.YtbofkbhobcahiaaGreatProg
namespace Go.Ev
open Go.Proofs
set_option maxRecDepth 100000
noncomputable section
/-- (*pianola/pianolaref9.Wheel).Arm -/
def g108 : GFunc := ⟨3, (.seq (.reg fun _ fr h k =>
  forceG (.bool false) fun v => Tr.setK .bad v q6 fr fun f6 =>
  k f6 h)
 (.seq (.seq (.reg fun _ fr h k =>
  obind (pLss (Tr.get .bad q1 fr) (.int .i64 (.ofNat 0))) fun v0 =>
  guardC v0 false h (fun k => k (Tr.get .bad q1 fr) h) fun v1 h2 =>
  guardC v0 false h2 (fun k => obind (pGeq v1 (.int .i64 (.ofNat 16))) fun v => k v h2) fun v2 h3 =>
  obind (pPick v0 (.bool true) v2) fun v3 =>
  guardC v3 false h3 (fun k => k (Tr.get .bad q2 fr) h3) fun v4 h5 =>
  guardC v3 false h5 (fun k => obind (pLss v4 (.int .i64 (.ofNat 0))) fun v => k v h5) fun v5 h6 =>
  obind (pPick v3 (.bool true) v5) fun v6 =>
  forceG v6 fun v => Tr.setK .bad v q17 fr fun f17 =>
  k f17 h6)
 (.cond 17 q17 (.seq (.reg fun _ fr h k =>
  forceG (.bool false) fun v => Tr.setK .bad v q6 fr fun f6 =>
  k f6 h)
 .ret)
 .skip))
 (.seq (.reg fun call fr h k =>
  call q144 [(Tr.get .bad q0 fr), (Tr.get .bad q1 fr)] h fun _ h1 =>
  k fr h1)
 (.seq (.reg fun _ fr h k =>
  forceG (.int .i64 (.ofNat 0)) fun v => Tr.setK .bad v q7 fr fun f7 =>
  k f7 h)
 (.seq (.block 0 (.loop (.seq (.seq (.reg fun _ fr h k =>
  obind (pNilck (Tr.get .bad q0 fr)) fun v0 =>
  obind (pFa 0 v0) fun v1 =>
  obind (rLd1 v1 h) fun v2 =>
  obind (pLenS v2) fun v3 =>
  obind (pLss (Tr.get .bad q7 fr) v3) fun v4 =>
  guardC v4 true h (fun k => k (Tr.get .bad q0 fr) h) fun v5 h6 =>
  guardC v4 true h6 (fun k => obind (pNilck v5) fun v => k v h6) fun v6 h7 =>
  guardC v4 true h7 (fun k => obind (pFa 0 v6) fun v => k v h7) fun v7 h8 =>
  guardC v4 true h8 (fun k => obind (rLd1 v7 h8) fun v => k v h8) fun v8 h9 =>
  guardC v4 true h9 (fun k => k (Tr.get .bad q7 fr) h9) fun v9 h10 =>
  guardC v4 true h10 (fun k => obind (pIdxS 3 v8 v9) fun v => k v h10) fun v10 h11 =>
  guardC v4 true h11 (fun k => obind (pFa 0 v10) fun v => k v h11) fun v11 h12 =>
  guardC v4 true h12 (fun k => obind (rLd1 v11 h12) fun v => k v h12) fun v12 h13 =>
  guardC v4 true h13 (fun k => k (Tr.get .bad q2 fr) h13) fun v13 h14 =>
  guardC v4 true h14 (fun k => obind (pLeq v12 v13) fun v => k v h14) fun v14 h15 =>
  obind (pPick v4 v14 (.bool false)) fun v15 =>
  forceG v15 fun v => Tr.setK .bad v q39 fr fun f39 =>
  k f39 h15)
 (.cond 39 q39 .skip
 (.exit 0)))
 (.block 1 (.reg fun _ fr h k =>
  obind (pAdd (Tr.get .bad q7 fr) (.int .i64 (.ofNat 1))) fun v0 =>
  forceG v0 fun v => Tr.setK .bad v q7 fr fun f7 =>
  k f7 h)))))
 (.seq (.reg fun _ fr h k =>
  obind2 (nBuildS (rep [.int .i64 (.ofNat 0), .int .i64 (.ofNat 0), .int .i64 (.ofNat 0)] 0) 0 3 none [] h) fun v0 h1 =>
  obind (pNilck (Tr.get .bad q0 fr)) fun v1 =>
  obind (pFa 0 v1) fun v2 =>
  obind (rLd1 v2 h1) fun v3 =>
  obind (pSlS 3 none (some (Tr.get .bad q7 fr)) none v3) fun v4 =>
  obind2 (nAppend 3 24 none v0 v4 h1) fun v5 h6 =>
  obind (pNilck (Tr.get .bad q0 fr)) fun v6 =>
  obind (pFa 1 v6) fun v7 =>
  obind (rLd1 v7 h6) fun v8 =>
  obind (pBuild [.int .i64 (.ofNat 0), .int .i64 (.ofNat 0), .int .i64 (.ofNat 0)] [(0, 1, (Tr.get .bad q2 fr)), (1, 1, (Tr.get .bad q1 fr)), (2, 1, v8)]) fun v9 =>
  obind2 (nBuildS (rep [.int .i64 (.ofNat 0), .int .i64 (.ofNat 0), .int .i64 (.ofNat 0)] 1) 1 3 none [(0, 3, v9)] h6) fun v10 h11 =>
  obind2 (nAppend 3 24 none v5 v10 h11) fun v11 h12 =>
  obind (pNilck (Tr.get .bad q0 fr)) fun v12 =>
  obind (pFa 0 v12) fun v13 =>
  obind (rLd1 v13 h12) fun v14 =>
  obind (pSlS 3 (some (Tr.get .bad q7 fr)) none none v14) fun v15 =>
  obind2 (nAppend 3 24 none v11 v15 h12) fun v16 h17 =>
  obind (pNilck (Tr.get .bad q0 fr)) fun v17 =>
  obind (pFa 0 v17) fun v18 =>
  obind (wSt1 v18 v16 h17) fun h20 =>
  chk v8 (rLd1 v7 h1) <|
  chk v14 (rLd1 v13 h1) <|
  chk v14 (rLd1 v13 h11) <|
  k fr h20)
 (.seq (.reg fun _ fr h k =>
  obind (pNilck (Tr.get .bad q0 fr)) fun v0 =>
  obind (pFa 1 v0) fun v1 =>
  obind (rLd1 v1 h) fun v2 =>
  obind (pAdd v2 (.int .i64 (.ofNat 1))) fun v3 =>
  obind (pNilck (Tr.get .bad q0 fr)) fun v4 =>
  obind (pFa 1 v4) fun v5 =>
  obind (wSt1 v5 v3 h) fun h7 =>
  k fr h7)
 (.seq (.reg fun _ fr h k =>
  forceG (.bool true) fun v => Tr.setK .bad v q6 fr fun f6 =>
  k f6 h)
 .ret)))))))), resF [.t 6]⟩
theorem g108_ok : Comp Tryz.prog Tryz.f108 3 [6, 7, 17, 39] g108 := ⟨_, [.t 6], rfl, by kernel_rfl, by decide, by kernel_rfl, by kernel_rfl, rfl, rfl⟩
/-- (*pianola/pianolaref15.Bus).move -/
def g109 : GFunc := ⟨1, (.seq (.reg fun _ fr h k =>
  obind (pNilck (Tr.get .bad q0 fr)) fun v0 =>
  obind (pFa 14 v0) fun v1 =>
  forceG v1 fun v => Tr.setK .bad v q2 fr fun f2 =>
  k f2 h)
 (.seq (.reg fun _ fr h k =>
  obind (pNilck (Tr.get .bad q2 fr)) fun v0 =>
  obind (pFa 3 v0) fun v1 =>
  obind (rLd1 v1 h) fun v2 =>
  obind (pAndNot v2 (.int .u32 (.ofNat 1))) fun v3 =>
  obind (pOr v3 (.int .u32 (.ofNat 2))) fun v4 =>
  obind (pNilck (Tr.get .bad q2 fr)) fun v5 =>
  obind (pFa 3 v5) fun v6 =>
  obind (wSt1 v6 v4 h) fun h8 =>
  k fr h8)
 (.seq (.seq (.reg fun call fr h k =>
  obind (pNilck (Tr.get .bad q2 fr)) fun v0 =>
  obind (pFa 2 v0) fun v1 =>
  obind (rLd1 v1 h) fun v2 =>
  obind (pGtr v2 (.int .u32 (.ofNat 4096))) fun v3 =>
  guardC v3 false h (fun k => k (Tr.get .bad q0 fr) h) fun v4 h5 =>
  guardC v3 false h5 (fun k => obind (pNilck v4) fun v => k v h5) fun v5 h6 =>
  guardC v3 false h6 (fun k => obind (pFa 0 v5) fun v => k v h6) fun v6 h7 =>
  guardC v3 false h7 (fun k => obind (rLd1 v6 h7) fun v => k v h7) fun v7 h8 =>
  guardC v3 false h8 (fun k => k (Tr.get .bad q2 fr) h8) fun v8 h9 =>
  guardC v3 false h9 (fun k => obind (pNilck v8) fun v => k v h9) fun v9 h10 =>
  guardC v3 false h10 (fun k => obind (pFa 0 v9) fun v => k v h10) fun v10 h11 =>
  guardC v3 false h11 (fun k => obind (rLd1 v10 h11) fun v => k v h11) fun v11 h12 =>
  guardC v3 false h12 (fun k => k (Tr.get .bad q2 fr) h12) fun v12 h13 =>
  guardC v3 false h13 (fun k => obind (pNilck v12) fun v => k v h13) fun v13 h14 =>
  guardC v3 false h14 (fun k => obind (pFa 2 v13) fun v => k v h14) fun v14 h15 =>
  guardC v3 false h15 (fun k => obind (rLd1 v14 h15) fun v => k v h15) fun v15 h16 =>
  guardC v3 false h16 (fun k => obind (pConv .i64 v15) fun v => k v h16) fun v16 h17 =>
  guardC v3 false h17 (fun k => call q85 [v7, v11, v16] h17 k) fun v17 h18 =>
  guardC v3 false h18 (fun k => obind (pNot v17) fun v => k v h18) fun v18 h19 =>
  obind (pPick v3 (.bool true) v18) fun v19 =>
  guardC v19 false h19 (fun k => k (Tr.get .bad q0 fr) h19) fun v20 h21 =>
  guardC v19 false h21 (fun k => obind (pNilck v20) fun v => k v h21) fun v21 h22 =>
  guardC v19 false h22 (fun k => obind (pFa 0 v21) fun v => k v h22) fun v22 h23 =>
  guardC v19 false h23 (fun k => obind (rLd1 v22 h23) fun v => k v h23) fun v23 h24 =>
  guardC v19 false h24 (fun k => k (Tr.get .bad q2 fr) h24) fun v24 h25 =>
  guardC v19 false h25 (fun k => obind (pNilck v24) fun v => k v h25) fun v25 h26 =>
  guardC v19 false h26 (fun k => obind (pFa 1 v25) fun v => k v h26) fun v26 h27 =>
  guardC v19 false h27 (fun k => obind (rLd1 v26 h27) fun v => k v h27) fun v27 h28 =>
  guardC v19 false h28 (fun k => k (Tr.get .bad q2 fr) h28) fun v28 h29 =>
  guardC v19 false h29 (fun k => obind (pNilck v28) fun v => k v h29) fun v29 h30 =>
  guardC v19 false h30 (fun k => obind (pFa 2 v29) fun v => k v h30) fun v30 h31 =>
  guardC v19 false h31 (fun k => obind (rLd1 v30 h31) fun v => k v h31) fun v31 h32 =>
  guardC v19 false h32 (fun k => obind (pConv .i64 v31) fun v => k v h32) fun v32 h33 =>
  guardC v19 false h33 (fun k => call q85 [v23, v27, v32] h33 k) fun v33 h34 =>
  guardC v19 false h34 (fun k => obind (pNot v33) fun v => k v h34) fun v34 h35 =>
  obind (pPick v19 (.bool true) v34) fun v35 =>
  forceG v35 fun v => Tr.setK .bad v q55 fr fun f55 =>
  k f55 h35)
 (.cond 55 q55 (.seq (.reg fun _ fr h k =>
  obind (pNilck (Tr.get .bad q2 fr)) fun v0 =>
  obind (pFa 3 v0) fun v1 =>
  obind (rLd1 v1 h) fun v2 =>
  obind (pOr v2 (.int .u32 (.ofNat 4))) fun v3 =>
  obind (pNilck (Tr.get .bad q2 fr)) fun v4 =>
  obind (pFa 3 v4) fun v5 =>
  obind (wSt1 v5 v3 h) fun h7 =>
  k fr h7)
 .ret)
 .skip))
 (.seq (.reg fun call fr h k =>
  obind (pNilck (Tr.get .bad q0 fr)) fun v0 =>
  obind (pFa 0 v0) fun v1 =>
  obind (rLd1 v1 h) fun v2 =>
  obind (pNilck (Tr.get .bad q2 fr)) fun v3 =>
  obind (pFa 0 v3) fun v4 =>
  obind (rLd1 v4 h) fun v5 =>
  obind (pNilck (Tr.get .bad q2 fr)) fun v6 =>
  obind (pFa 2 v6) fun v7 =>
  obind (rLd1 v7 h) fun v8 =>
  obind (pConv .i64 v8) fun v9 =>
  call q149 [v2, v5, v9] h fun v10 h11 =>
  obind (pExt 0 v10) fun v11 =>
  obind (pExt 1 v10) fun _ =>
  forceG v11 fun v => Tr.setK .bad v q3 fr fun f3 =>
  k f3 h11)
 (.reg fun call fr h k =>
  obind (pNilck (Tr.get .bad q0 fr)) fun v0 =>
  obind (pFa 0 v0) fun v1 =>
  obind (rLd1 v1 h) fun v2 =>
  obind (pNilck (Tr.get .bad q2 fr)) fun v3 =>
  obind (pFa 1 v3) fun v4 =>
  obind (rLd1 v4 h) fun v5 =>
  call q60 [v2, v5, (Tr.get .bad q3 fr)] h fun _ h7 =>
  k fr h7))))), resF []⟩
theorem g109_ok : Comp Tryz.prog Tryz.f109 1 [2, 3, 55] g109 := ⟨_, [], rfl, by kernel_rfl, by decide, by kernel_rfl, by kernel_rfl, rfl, rfl⟩
/-- (*pianola/pianolaref15.Bus).sector -/
def g110 : GFunc := ⟨1, (.seq (.reg fun _ fr h k =>
  obind (pNilck (Tr.get .bad q0 fr)) fun v0 =>
  obind (pFa 18 v0) fun v1 =>
  forceG v1 fun v => Tr.setK .bad v q2 fr fun f2 =>
  k f2 h)
 (.seq (.reg fun _ fr h k =>
  obind (pNilck (Tr.get .bad q2 fr)) fun v0 =>
  obind (pFa 3 v0) fun v1 =>
  obind (rLd1 v1 h) fun v2 =>
  obind (pAndNot v2 (.int .u32 (.ofNat 1))) fun v3 =>
  obind (pOr v3 (.int .u32 (.ofNat 2))) fun v4 =>
  obind (pNilck (Tr.get .bad q2 fr)) fun v5 =>
  obind (pFa 3 v5) fun v6 =>
  obind (wSt1 v6 v4 h) fun h8 =>
  k fr h8)
 (.seq (.seq (.reg fun call fr h k =>
  obind (pNilck (Tr.get .bad q2 fr)) fun v0 =>
  obind (pFa 0 v0) fun v1 =>
  obind (rLd1 v1 h) fun v2 =>
  obind (pNilck (Tr.get .bad q2 fr)) fun v3 =>
  obind (pFa 4 v3) fun v4 =>
  obind (rLd1 v4 h) fun v5 =>
  obind (pLenS v5) fun v6 =>
  obind (pQuo v6 (.int .i64 (.ofNat 64))) fun v7 =>
  obind (pConv .u32 v7) fun v8 =>
  obind (pGeq v2 v8) fun v9 =>
  guardC v9 false h (fun k => k (Tr.get .bad q2 fr) h) fun v10 h11 =>
  guardC v9 false h11 (fun k => obind (pNilck v10) fun v => k v h11) fun v11 h12 =>
  guardC v9 false h12 (fun k => obind (pFa 2 v11) fun v => k v h12) fun v12 h13 =>
  guardC v9 false h13 (fun k => obind (rLd1 v12 h13) fun v => k v h13) fun v13 h14 =>
  guardC v9 false h14 (fun k => obind (pNeq v13 (.int .u32 (.ofNat 1))) fun v => k v h14) fun v14 h15 =>
  guardC v9 false h15 (fun k => k v14 h15) fun v15 h16 =>
  guardC v15 true h16 (fun k => k (Tr.get .bad q2 fr) h16) fun v16 h17 =>
  guardC v15 true h17 (fun k => obind (pNilck v16) fun v => k v h17) fun v17 h18 =>
  guardC v15 true h18 (fun k => obind (pFa 2 v17) fun v => k v h18) fun v18 h19 =>
  guardC v15 true h19 (fun k => obind (rLd1 v18 h19) fun v => k v h19) fun v19 h20 =>
  guardC v15 true h20 (fun k => obind (pNeq v19 (.int .u32 (.ofNat 2))) fun v => k v h20) fun v20 h21 =>
  guardC v9 false h21 (fun k => obind (pPick v15 v20 (.bool false)) fun v => k v h21) fun v21 h22 =>
  obind (pPick v9 (.bool true) v21) fun v22 =>
  guardC v22 false h22 (fun k => k (Tr.get .bad q0 fr) h22) fun v23 h24 =>
  guardC v22 false h24 (fun k => obind (pNilck v23) fun v => k v h24) fun v24 h25 =>
  guardC v22 false h25 (fun k => obind (pFa 0 v24) fun v => k v h25) fun v25 h26 =>
  guardC v22 false h26 (fun k => obind (rLd1 v25 h26) fun v => k v h26) fun v26 h27 =>
  guardC v22 false h27 (fun k => k (Tr.get .bad q2 fr) h27) fun v27 h28 =>
  guardC v22 false h28 (fun k => obind (pNilck v27) fun v => k v h28) fun v28 h29 =>
  guardC v22 false h29 (fun k => obind (pFa 1 v28) fun v => k v h29) fun v29 h30 =>
  guardC v22 false h30 (fun k => obind (rLd1 v29 h30) fun v => k v h30) fun v30 h31 =>
  guardC v22 false h31 (fun k => call q85 [v26, v30, (.int .i64 (.ofNat 64))] h31 k) fun v31 h32 =>
  guardC v22 false h32 (fun k => obind (pNot v31) fun v => k v h32) fun v32 h33 =>
  obind (pPick v22 (.bool true) v32) fun v33 =>
  forceG v33 fun v => Tr.setK .bad v q55 fr fun f55 =>
  k f55 h33)
 (.cond 55 q55 (.seq (.reg fun _ fr h k =>
  obind (pNilck (Tr.get .bad q2 fr)) fun v0 =>
  obind (pFa 3 v0) fun v1 =>
  obind (rLd1 v1 h) fun v2 =>
  obind (pOr v2 (.int .u32 (.ofNat 4))) fun v3 =>
  obind (pNilck (Tr.get .bad q2 fr)) fun v4 =>
  obind (pFa 3 v4) fun v5 =>
  obind (wSt1 v5 v3 h) fun h7 =>
  k fr h7)
 .ret)
 .skip))
 (.seq (.reg fun _ fr h k =>
  obind (pNilck (Tr.get .bad q2 fr)) fun v0 =>
  obind (pFa 0 v0) fun v1 =>
  obind (rLd1 v1 h) fun v2 =>
  obind (pConv .i64 v2) fun v3 =>
  obind (pMul v3 (.int .i64 (.ofNat 64))) fun v4 =>
  forceG v4 fun v => Tr.setK .bad v q3 fr fun f3 =>
  k f3 h)
 (.seq (.seq (.reg fun _ fr h k =>
  obind (pNilck (Tr.get .bad q2 fr)) fun v0 =>
  obind (pFa 2 v0) fun v1 =>
  obind (rLd1 v1 h) fun v2 =>
  obind (pEql v2 (.int .u32 (.ofNat 1))) fun v3 =>
  forceG v3 fun v => Tr.setK .bad v q74 fr fun f74 =>
  k f74 h)
 (.cond 74 q74 (.seq (.reg fun call fr h k =>
  obind (pNilck (Tr.get .bad q0 fr)) fun v0 =>
  obind (pFa 0 v0) fun v1 =>
  obind (rLd1 v1 h) fun v2 =>
  obind (pNilck (Tr.get .bad q2 fr)) fun v3 =>
  obind (pFa 1 v3) fun v4 =>
  obind (rLd1 v4 h) fun v5 =>
  obind (pNilck (Tr.get .bad q2 fr)) fun v6 =>
  obind (pFa 4 v6) fun v7 =>
  obind (rLd1 v7 h) fun v8 =>
  obind (pAdd (Tr.get .bad q3 fr) (.int .i64 (.ofNat 64))) fun v9 =>
  obind (pSlS 1 (some (Tr.get .bad q3 fr)) (some v9) none v8) fun v10 =>
  call q60 [v2, v5, v10] h fun _ h12 =>
  k fr h12)
 .ret)
 .skip))
 (.seq (.reg fun call fr h k =>
  obind (pNilck (Tr.get .bad q0 fr)) fun v0 =>
  obind (pFa 0 v0) fun v1 =>
  obind (rLd1 v1 h) fun v2 =>
  obind (pNilck (Tr.get .bad q2 fr)) fun v3 =>
  obind (pFa 1 v3) fun v4 =>
  obind (rLd1 v4 h) fun v5 =>
  call q149 [v2, v5, (.int .i64 (.ofNat 64))] h fun v6 h7 =>
  obind (pExt 0 v6) fun v7 =>
  obind (pExt 1 v6) fun _ =>
  forceG v7 fun v => Tr.setK .bad v q4 fr fun f4 =>
  k f4 h7)
 (.reg fun _ fr h k =>
  obind (pNilck (Tr.get .bad q2 fr)) fun v0 =>
  obind (pFa 4 v0) fun v1 =>
  obind (rLd1 v1 h) fun v2 =>
  obind (pSlS 1 (some (Tr.get .bad q3 fr)) none none v2) fun v3 =>
  obind2 (nCopy 1 v3 (Tr.get .bad q4 fr) h) fun _ h5 =>
  k fr h5))))))), resF []⟩
theorem g110_ok : Comp Tryz.prog Tryz.f110 1 [2, 3, 4, 55, 74] g110 := ⟨_, [], rfl, by kernel_rfl, by decide, by kernel_rfl, by kernel_rfl, rfl, rfl⟩
/-- pianola/uart.bit -/
def g133 : GFunc := ⟨2, (.seq (.reg fun _ fr h k =>
  forceG (.int .u32 (.ofNat 0)) fun v => Tr.setK .bad v q4 fr fun f4 =>
  k f4 h)
 (.seq (.seq (.reg fun _ fr h k =>
  forceG (Tr.get .bad q0 fr) fun v => Tr.setK .bad v q5 fr fun f5 =>
  k f5 h)
 (.cond 5 q5 (.seq (.reg fun _ fr h k =>
  forceG (Tr.get .bad q1 fr) fun v => Tr.setK .bad v q4 fr fun f4 =>
  k f4 h)
 .ret)
 .skip))
 (.seq (.reg fun _ fr h k =>
  forceG (.int .u32 (.ofNat 0)) fun v => Tr.setK .bad v q4 fr fun f4 =>
  k f4 h)
 .ret))), resF [.t 4]⟩
theorem g133_ok : Comp Tryz.prog Tryz.f133 2 [4, 5] g133 := ⟨_, [.t 4], rfl, by kernel_rfl, by decide, by kernel_rfl, by kernel_rfl, rfl, rfl⟩
/-- (*pianola/timer.Timer).Line -/
def g134 : GFunc := ⟨1, (.seq (.reg fun _ fr h k =>
  forceG (.bool false) fun v => Tr.setK .bad v q2 fr fun f2 =>
  k f2 h)
 (.seq (.reg fun _ fr h k =>
  obind (pNilck (Tr.get .bad q0 fr)) fun v0 =>
  obind (pFa 4 v0) fun v1 =>
  obind (rLd1 v1 h) fun v2 =>
  obind (pNeq v2 (.int .u32 (.ofNat 0))) fun v3 =>
  forceG v3 fun v => Tr.setK .bad v q2 fr fun f2 =>
  k f2 h)
 .ret)), resF [.t 2]⟩
theorem g134_ok : Comp Tryz.prog Tryz.f134 1 [2] g134 := ⟨_, [.t 2], rfl, by kernel_rfl, by decide, by kernel_rfl, by kernel_rfl, rfl, rfl⟩
/-- (*pianola/uart.Uart).Line -/
def g135 : GFunc := ⟨1, (.seq (.reg fun _ fr h k =>
  forceG (.bool false) fun v => Tr.setK .bad v q2 fr fun f2 =>
  k f2 h)
 (.seq (.reg fun _ fr h k =>
  obind (pNilck (Tr.get .bad q0 fr)) fun v0 =>
  obind (pFa 5 v0) fun v1 =>
  obind (rLd1 v1 h) fun v2 =>
  obind (pAnd v2 (.int .u32 (.ofNat 1))) fun v3 =>
  obind (pNeq v3 (.int .u32 (.ofNat 0))) fun v4 =>
  guardC v4 true h (fun k => k (Tr.get .bad q0 fr) h) fun v5 h6 =>
  guardC v4 true h6 (fun k => obind (pNilck v5) fun v => k v h6) fun v6 h7 =>
  guardC v4 true h7 (fun k => obind (pFa 2 v6) fun v => k v h7) fun v7 h8 =>
  guardC v4 true h8 (fun k => obind (rLd1 v7 h8) fun v => k v h8) fun v8 h9 =>
  guardC v4 true h9 (fun k => obind (rLenC v8 h9) fun v => k v h9) fun v9 h10 =>
  guardC v4 true h10 (fun k => obind (pGtr v9 (.int .i64 (.ofNat 0))) fun v => k v h10) fun v10 h11 =>
  obind (pPick v4 v10 (.bool false)) fun v11 =>
  guardC v11 false h11 (fun k => k (Tr.get .bad q0 fr) h11) fun v12 h13 =>
  guardC v11 false h13 (fun k => obind (pNilck v12) fun v => k v h13) fun v13 h14 =>
  guardC v11 false h14 (fun k => obind (pFa 5 v13) fun v => k v h14) fun v14 h15 =>
  guardC v11 false h15 (fun k => obind (rLd1 v14 h15) fun v => k v h15) fun v15 h16 =>
  guardC v11 false h16 (fun k => obind (pAnd v15 (.int .u32 (.ofNat 2))) fun v => k v h16) fun v16 h17 =>
  guardC v11 false h17 (fun k => obind (pNeq v16 (.int .u32 (.ofNat 0))) fun v => k v h17) fun v17 h18 =>
  guardC v11 false h18 (fun k => k v17 h18) fun v18 h19 =>
  guardC v18 true h19 (fun k => k (Tr.get .bad q0 fr) h19) fun v19 h20 =>
  guardC v18 true h20 (fun k => obind (pNilck v19) fun v => k v h20) fun v20 h21 =>
  guardC v18 true h21 (fun k => obind (pFa 3 v20) fun v => k v h21) fun v21 h22 =>
  guardC v18 true h22 (fun k => obind (rLd1 v21 h22) fun v => k v h22) fun v22 h23 =>
  guardC v18 true h23 (fun k => obind (rLenC v22 h23) fun v => k v h23) fun v23 h24 =>
  guardC v18 true h24 (fun k => obind (pEql v23 (.int .i64 (.ofNat 0))) fun v => k v h24) fun v24 h25 =>
  guardC v11 false h25 (fun k => obind (pPick v18 v24 (.bool false)) fun v => k v h25) fun v25 h26 =>
  obind (pPick v11 (.bool true) v25) fun v26 =>
  forceG v26 fun v => Tr.setK .bad v q2 fr fun f2 =>
  k f2 h26)
 .ret)), resF [.t 2]⟩
theorem g135_ok : Comp Tryz.prog Tryz.f135 1 [2] g135 := ⟨_, [.t 2], rfl, by kernel_rfl, by decide, by kernel_rfl, by kernel_rfl, rfl, rfl⟩
/-- (*pianola/dma.Dma).Line -/
def g136 : GFunc := ⟨1, (.seq (.reg fun _ fr h k =>
  forceG (.bool false) fun v => Tr.setK .bad v q2 fr fun f2 =>
  k f2 h)
 (.seq (.reg fun _ fr h k =>
  obind (pNilck (Tr.get .bad q0 fr)) fun v0 =>
  obind (pFa 6 v0) fun v1 =>
  obind (rLd1 v1 h) fun v2 =>
  obind (pAnd v2 (.int .u32 (.ofNat 6))) fun v3 =>
  obind (pNeq v3 (.int .u32 (.ofNat 0))) fun v4 =>
  forceG v4 fun v => Tr.setK .bad v q2 fr fun f2 =>
  k f2 h)
 .ret)), resF [.t 2]⟩
theorem g136_ok : Comp Tryz.prog Tryz.f136 1 [2] g136 := ⟨_, [.t 2], rfl, by kernel_rfl, by decide, by kernel_rfl, by kernel_rfl, rfl, rfl⟩
/-- (*pianola/disk.Disk).Line -/
def g137 : GFunc := ⟨1, (.seq (.reg fun _ fr h k =>
  forceG (.bool false) fun v => Tr.setK .bad v q2 fr fun f2 =>
  k f2 h)
 (.seq (.reg fun _ fr h k =>
  obind (pNilck (Tr.get .bad q0 fr)) fun v0 =>
  obind (pFa 7 v0) fun v1 =>
  obind (rLd1 v1 h) fun v2 =>
  obind (pAnd v2 (.int .u32 (.ofNat 6))) fun v3 =>
  obind (pNeq v3 (.int .u32 (.ofNat 0))) fun v4 =>
  forceG v4 fun v => Tr.setK .bad v q2 fr fun f2 =>
  k f2 h)
 .ret)), resF [.t 2]⟩
theorem g137_ok : Comp Tryz.prog Tryz.f137 1 [2] g137 := ⟨_, [.t 2], rfl, by kernel_rfl, by decide, by kernel_rfl, by kernel_rfl, rfl, rfl⟩
/-- (*pianola/timer.Timer).arm -/
def g138 : GFunc := ⟨2, (.reg fun call fr h k =>
  obind (pNilck (Tr.get .bad q0 fr)) fun v0 =>
  obind (pFa 1 v0) fun v1 =>
  obind (rLd1 v1 h) fun v2 =>
  obind (pNilck (Tr.get .bad q0 fr)) fun v3 =>
  obind (pFa 0 v3) fun v4 =>
  obind (rLd1 v4 h) fun v5 =>
  obind (pNilck (Tr.get .bad q0 fr)) fun v6 =>
  obind (pFa 3 v6) fun v7 =>
  obind (rLd1 v7 h) fun v8 =>
  obind (pMax (.int .u32 (.ofNat 1)) v8) fun v9 =>
  obind (pConv .i64 v9) fun v10 =>
  obind (pAdd (Tr.get .bad q1 fr) v10) fun v11 =>
  call q196 [v2, v5, v11] h fun _ h13 =>
  k fr h13), resF []⟩
theorem g138_ok : Comp Tryz.prog Tryz.f138 2 [] g138 := ⟨_, [], rfl, by kernel_rfl, by decide, by kernel_rfl, by kernel_rfl, rfl, rfl⟩
/-- (*pianola/wheel.Wheel).Cancel -/
def g139 : GFunc := ⟨2, (.seq (.reg fun _ fr h k =>
  forceG (.bool false) fun v => Tr.setK .bad v q4 fr fun f4 =>
  k f4 h)
 (.seq (.reg fun call fr h k =>
  call q197 [(Tr.get .bad q0 fr), (Tr.get .bad q1 fr)] h fun v0 h1 =>
  forceG v0 fun v => Tr.setK .bad v q5 fr fun f5 =>
  k f5 h1)
 (.seq (.seq (.reg fun _ fr h k =>
  obind (pLss (Tr.get .bad q5 fr) (.int .i64 (.ofNat 0))) fun v0 =>
  forceG v0 fun v => Tr.setK .bad v q10 fr fun f10 =>
  k f10 h)
 (.cond 10 q10 (.seq (.reg fun _ fr h k =>
  forceG (.bool false) fun v => Tr.setK .bad v q4 fr fun f4 =>
  k f4 h)
 .ret)
 .skip))
 (.seq (.reg fun call fr h k =>
  obind (pNilck (Tr.get .bad q0 fr)) fun v0 =>
  obind (pFa 0 v0) fun v1 =>
  obind (rLd1 v1 h) fun v2 =>
  obind (pAdd (Tr.get .bad q5 fr) (.int .i64 (.ofNat 1))) fun v3 =>
  call q103 [v2, (Tr.get .bad q5 fr), v3] h fun v4 h5 =>
  obind (pNilck (Tr.get .bad q0 fr)) fun v5 =>
  obind (pFa 0 v5) fun v6 =>
  obind (wSt1 v6 v4 h5) fun h8 =>
  k fr h8)
 (.seq (.reg fun _ fr h k =>
  forceG (.bool true) fun v => Tr.setK .bad v q4 fr fun f4 =>
  k f4 h)
 .ret))))), resF [.t 4]⟩
theorem g139_ok : Comp Tryz.prog Tryz.f139 2 [4, 5, 10] g139 := ⟨_, [.t 4], rfl, by kernel_rfl, by decide, by kernel_rfl, by kernel_rfl, rfl, rfl⟩
/-- (*pianola/uart.Uart).arm -/
def g141 : GFunc := ⟨2, (.reg fun call fr h k =>
  obind (pNilck (Tr.get .bad q0 fr)) fun v0 =>
  obind (pFa 1 v0) fun v1 =>
  obind (rLd1 v1 h) fun v2 =>
  obind (pNilck (Tr.get .bad q0 fr)) fun v3 =>
  obind (pFa 0 v3) fun v4 =>
  obind (rLd1 v4 h) fun v5 =>
  obind (pAdd (Tr.get .bad q1 fr) (.int .i64 (.ofNat 8))) fun v6 =>
  call q196 [v2, v5, v6] h fun _ h8 =>
  k fr h8), resF []⟩
theorem g141_ok : Comp Tryz.prog Tryz.f141 2 [] g141 := ⟨_, [], rfl, by kernel_rfl, by decide, by kernel_rfl, by kernel_rfl, rfl, rfl⟩
/-- (*pianola/dma.Dma).begin -/
def g142 : GFunc := ⟨2, (.seq (.seq (.reg fun _ fr h k =>
  obind (pNilck (Tr.get .bad q0 fr)) fun v0 =>
  obind (pFa 6 v0) fun v1 =>
  obind (rLd1 v1 h) fun v2 =>
  obind (pAnd v2 (.int .u32 (.ofNat 1))) fun v3 =>
  obind (pNeq v3 (.int .u32 (.ofNat 0))) fun v4 =>
  forceG v4 fun v => Tr.setK .bad v q9 fr fun f9 =>
  k f9 h)
 (.cond 9 q9 .ret
 .skip))
 (.seq (.reg fun _ fr h k =>
  obind (pNilck (Tr.get .bad q0 fr)) fun v0 =>
  obind (pFa 6 v0) fun v1 =>
  obind (rLd1 v1 h) fun v2 =>
  obind (pOr v2 (.int .u32 (.ofNat 1))) fun v3 =>
  obind (pNilck (Tr.get .bad q0 fr)) fun v4 =>
  obind (pFa 6 v4) fun v5 =>
  obind (wSt1 v5 v3 h) fun h7 =>
  k fr h7)
 (.reg fun call fr h k =>
  obind (pNilck (Tr.get .bad q0 fr)) fun v0 =>
  obind (pFa 1 v0) fun v1 =>
  obind (rLd1 v1 h) fun v2 =>
  obind (pNilck (Tr.get .bad q0 fr)) fun v3 =>
  obind (pFa 0 v3) fun v4 =>
  obind (rLd1 v4 h) fun v5 =>
  obind (pNilck (Tr.get .bad q0 fr)) fun v6 =>
  obind (pFa 5 v6) fun v7 =>
  obind (rLd1 v7 h) fun v8 =>
  obind (pMin v8 (.int .u32 (.ofNat 4096))) fun v9 =>
  obind (pQuo v9 (.int .u32 (.ofNat 4))) fun v10 =>
  obind (pConv .i64 v10) fun v11 =>
  obind (pAdd (Tr.get .bad q1 fr) v11) fun v12 =>
  obind (pAdd v12 (.int .i64 (.ofNat 1))) fun v13 =>
  call q196 [v2, v5, v13] h fun _ h15 =>
  k fr h15))), resF []⟩
theorem g142_ok : Comp Tryz.prog Tryz.f142 2 [9] g142 := ⟨_, [], rfl, by kernel_rfl, by decide, by kernel_rfl, by kernel_rfl, rfl, rfl⟩
/-- (*pianola/disk.Disk).begin -/
def g143 : GFunc := ⟨3, (.seq (.seq (.reg fun _ fr h k =>
  obind (pNilck (Tr.get .bad q0 fr)) fun v0 =>
  obind (pFa 7 v0) fun v1 =>
  obind (rLd1 v1 h) fun v2 =>
  obind (pAnd v2 (.int .u32 (.ofNat 1))) fun v3 =>
  obind (pNeq v3 (.int .u32 (.ofNat 0))) fun v4 =>
  forceG v4 fun v => Tr.setK .bad v q11 fr fun f11 =>
  k f11 h)
 (.cond 11 q11 .ret
 .skip))
 (.seq (.reg fun _ fr h k =>
  obind (pNilck (Tr.get .bad q0 fr)) fun v0 =>
  obind (pFa 6 v0) fun v1 =>
  obind (wSt1 v1 (Tr.get .bad q1 fr) h) fun h3 =>
  k fr h3)
 (.seq (.reg fun _ fr h k =>
  obind (pNilck (Tr.get .bad q0 fr)) fun v0 =>
  obind (pFa 7 v0) fun v1 =>
  obind (rLd1 v1 h) fun v2 =>
  obind (pOr v2 (.int .u32 (.ofNat 1))) fun v3 =>
  obind (pNilck (Tr.get .bad q0 fr)) fun v4 =>
  obind (pFa 7 v4) fun v5 =>
  obind (wSt1 v5 v3 h) fun h7 =>
  k fr h7)
 (.reg fun call fr h k =>
  obind (pNilck (Tr.get .bad q0 fr)) fun v0 =>
  obind (pFa 1 v0) fun v1 =>
  obind (rLd1 v1 h) fun v2 =>
  obind (pNilck (Tr.get .bad q0 fr)) fun v3 =>
  obind (pFa 0 v3) fun v4 =>
  obind (rLd1 v4 h) fun v5 =>
  obind (pAdd (Tr.get .bad q2 fr) (.int .i64 (.ofNat 32))) fun v6 =>
  call q196 [v2, v5, v6] h fun _ h8 =>
  k fr h8)))), resF []⟩
theorem g143_ok : Comp Tryz.prog Tryz.f143 3 [11] g143 := ⟨_, [], rfl, by kernel_rfl, by decide, by kernel_rfl, by kernel_rfl, rfl, rfl⟩
/-- (*pianola/pianolaref9.Wheel).Cancel -/
def g144 : GFunc := ⟨2, (.seq (.reg fun _ fr h k =>
  forceG (.bool false) fun v => Tr.setK .bad v q4 fr fun f4 =>
  k f4 h)
 (.seq (.seq (.reg fun _ fr h k =>
  forceG (.int .i64 (.ofNat 0)) fun v => Tr.setK .bad v q5 fr fun f5 =>
  k f5 h)
 (.block 0 (.loop (.seq (.seq (.reg fun _ fr h k =>
  obind (pNilck (Tr.get .bad q0 fr)) fun v0 =>
  obind (pFa 0 v0) fun v1 =>
  obind (rLd1 v1 h) fun v2 =>
  obind (pLenS v2) fun v3 =>
  obind (pLss (Tr.get .bad q5 fr) v3) fun v4 =>
  forceG v4 fun v => Tr.setK .bad v q12 fr fun f12 =>
  k f12 h)
 (.cond 12 q12 .skip
 (.exit 0)))
 (.seq (.block 1 (.seq (.reg fun _ fr h k =>
  obind (pNilck (Tr.get .bad q0 fr)) fun v0 =>
  obind (pFa 0 v0) fun v1 =>
  obind (rLd1 v1 h) fun v2 =>
  obind (pIdxS 3 v2 (Tr.get .bad q5 fr)) fun v3 =>
  obind (pFa 1 v3) fun v4 =>
  obind (rLd1 v4 h) fun v5 =>
  obind (pEql v5 (Tr.get .bad q1 fr)) fun v6 =>
  forceG v6 fun v => Tr.setK .bad v q24 fr fun f24 =>
  k f24 h)
 (.cond 24 q24 (.seq (.reg fun _ fr h k =>
  obind2 (nBuildS (rep [.int .i64 (.ofNat 0), .int .i64 (.ofNat 0), .int .i64 (.ofNat 0)] 0) 0 3 none [] h) fun v0 h1 =>
  obind (pNilck (Tr.get .bad q0 fr)) fun v1 =>
  obind (pFa 0 v1) fun v2 =>
  obind (rLd1 v2 h1) fun v3 =>
  obind (pSlS 3 none (some (Tr.get .bad q5 fr)) none v3) fun v4 =>
  obind2 (nAppend 3 24 none v0 v4 h1) fun v5 h6 =>
  obind (pNilck (Tr.get .bad q0 fr)) fun v6 =>
  obind (pFa 0 v6) fun v7 =>
  obind (rLd1 v7 h6) fun v8 =>
  obind (pAdd (Tr.get .bad q5 fr) (.int .i64 (.ofNat 1))) fun v9 =>
  obind (pSlS 3 (some v9) none none v8) fun v10 =>
  obind2 (nAppend 3 24 none v5 v10 h6) fun v11 h12 =>
  obind (pNilck (Tr.get .bad q0 fr)) fun v12 =>
  obind (pFa 0 v12) fun v13 =>
  obind (wSt1 v13 v11 h12) fun h15 =>
  chk v8 (rLd1 v7 h1) <|
  k fr h15)
 (.seq (.reg fun _ fr h k =>
  forceG (.bool true) fun v => Tr.setK .bad v q4 fr fun f4 =>
  k f4 h)
 .ret))
 .skip)))
 (.reg fun _ fr h k =>
  obind (pAdd (Tr.get .bad q5 fr) (.int .i64 (.ofNat 1))) fun v0 =>
  forceG v0 fun v => Tr.setK .bad v q5 fr fun f5 =>
  k f5 h))))))
 (.seq (.reg fun _ fr h k =>
  forceG (.bool false) fun v => Tr.setK .bad v q4 fr fun f4 =>
  k f4 h)
 .ret))), resF [.t 4]⟩
theorem g144_ok : Comp Tryz.prog Tryz.f144 2 [4, 5, 12, 24] g144 := ⟨_, [.t 4], rfl, by kernel_rfl, by decide, by kernel_rfl, by kernel_rfl, rfl, rfl⟩
/-- slices.Clone[[]pianola/api.Event,pianola/api.Event] -/
def g145 : GFunc := ⟨1, (.seq (.reg fun _ fr h k =>
  forceG .nils fun v => Tr.setK .bad v q2 fr fun f2 =>
  k f2 h)
 (.seq (.seq (.reg fun _ fr h k =>
  obind (pEqlN 1 (Tr.get .bad q0 fr) .nils) fun v0 =>
  forceG v0 fun v => Tr.setK .bad v q4 fr fun f4 =>
  k f4 h)
 (.cond 4 q4 (.seq (.reg fun _ fr h k =>
  forceG .nils fun v => Tr.setK .bad v q2 fr fun f2 =>
  k f2 h)
 .ret)
 .skip))
 (.seq (.reg fun _ fr h k =>
  obind2 (nBuildS (rep [.int .i64 (.ofNat 0), .int .i64 (.ofNat 0), .int .i64 (.ofNat 0)] 0) 0 3 none [] h) fun v0 h1 =>
  obind2 (nAppend 3 24 none v0 (Tr.get .bad q0 fr) h1) fun v1 h2 =>
  forceG v1 fun v => Tr.setK .bad v q2 fr fun f2 =>
  k f2 h2)
 .ret))), resF [.t 2]⟩
theorem g145_ok : Comp Tryz.prog Tryz.f145 1 [2, 4] g145 := ⟨_, [.t 2], rfl, by kernel_rfl, by decide, by kernel_rfl, by kernel_rfl, rfl, rfl⟩
/-- slices.Clone[[]byte,byte] -/
def g146 : GFunc := ⟨1, (.seq (.reg fun _ fr h k =>
  forceG .nils fun v => Tr.setK .bad v q2 fr fun f2 =>
  k f2 h)
 (.seq (.seq (.reg fun _ fr h k =>
  obind (pEqlN 1 (Tr.get .bad q0 fr) .nils) fun v0 =>
  forceG v0 fun v => Tr.setK .bad v q4 fr fun f4 =>
  k f4 h)
 (.cond 4 q4 (.seq (.reg fun _ fr h k =>
  forceG .nils fun v => Tr.setK .bad v q2 fr fun f2 =>
  k f2 h)
 .ret)
 .skip))
 (.seq (.reg fun _ fr h k =>
  obind2 (nBuildS (rep [.int .u8 (.ofNat 0)] 0) 0 1 (some (.u8, 8)) [] h) fun v0 h1 =>
  obind2 (nAppend 1 1 (some (.u8, 8)) v0 (Tr.get .bad q0 fr) h1) fun v1 h2 =>
  forceG v1 fun v => Tr.setK .bad v q2 fr fun f2 =>
  k f2 h2)
 .ret))), resF [.t 2]⟩
theorem g146_ok : Comp Tryz.prog Tryz.f146 1 [2, 4] g146 := ⟨_, [.t 2], rfl, by kernel_rfl, by decide, by kernel_rfl, by kernel_rfl, rfl, rfl⟩
/-- (*pianola/dma.Dma).move -/
def g147 : GFunc := ⟨1, (.seq (.reg fun _ fr h k =>
  forceG (.bool false) fun v => Tr.setK .bad v q2 fr fun f2 =>
  k f2 h)
 (.seq (.seq (.reg fun _ fr h k =>
  obind (pNilck (Tr.get .bad q0 fr)) fun v0 =>
  obind (pFa 5 v0) fun v1 =>
  obind (rLd1 v1 h) fun v2 =>
  obind (pGtr v2 (.int .u32 (.ofNat 4096))) fun v3 =>
  forceG v3 fun v => Tr.setK .bad v q9 fr fun f9 =>
  k f9 h)
 (.cond 9 q9 (.seq (.reg fun _ fr h k =>
  forceG (.bool false) fun v => Tr.setK .bad v q2 fr fun f2 =>
  k f2 h)
 .ret)
 .skip))
 (.seq (.reg fun call fr h k =>
  obind (pNilck (Tr.get .bad q0 fr)) fun v0 =>
  obind (pFa 2 v0) fun v1 =>
  obind (rLd1 v1 h) fun v2 =>
  obind (pNilck (Tr.get .bad q0 fr)) fun v3 =>
  obind (pFa 3 v3) fun v4 =>
  obind (rLd1 v4 h) fun v5 =>
  obind (pNilck (Tr.get .bad q0 fr)) fun v6 =>
  obind (pFa 5 v6) fun v7 =>
  obind (rLd1 v7 h) fun v8 =>
  obind (pConv .i64 v8) fun v9 =>
  call q198 [v2, v5, v9] h fun v10 h11 =>
  obind (pExt 0 v10) fun v11 =>
  obind (pExt 1 v10) fun v12 =>
  forceG v11 fun v => Tr.setK .bad v q3 fr fun f3 =>
  forceG v12 fun v => Tr.setK .bad v q4 f3 fun f4 =>
  k f4 h11)
 (.seq (.reg fun call fr h k =>
  guardC (Tr.get .bad q4 fr) true h (fun k => k (Tr.get .bad q0 fr) h) fun v0 h1 =>
  guardC (Tr.get .bad q4 fr) true h1 (fun k => obind (pNilck v0) fun v => k v h1) fun v1 h2 =>
  guardC (Tr.get .bad q4 fr) true h2 (fun k => obind (pFa 2 v1) fun v => k v h2) fun v2 h3 =>
  guardC (Tr.get .bad q4 fr) true h3 (fun k => obind (rLd1 v2 h3) fun v => k v h3) fun v3 h4 =>
  guardC (Tr.get .bad q4 fr) true h4 (fun k => k (Tr.get .bad q0 fr) h4) fun v4 h5 =>
  guardC (Tr.get .bad q4 fr) true h5 (fun k => obind (pNilck v4) fun v => k v h5) fun v5 h6 =>
  guardC (Tr.get .bad q4 fr) true h6 (fun k => obind (pFa 4 v5) fun v => k v h6) fun v6 h7 =>
  guardC (Tr.get .bad q4 fr) true h7 (fun k => obind (rLd1 v6 h7) fun v => k v h7) fun v7 h8 =>
  guardC (Tr.get .bad q4 fr) true h8 (fun k => k (Tr.get .bad q3 fr) h8) fun v8 h9 =>
  guardC (Tr.get .bad q4 fr) true h9 (fun k => call q29 [v3, v7, v8] h9 k) fun v9 h10 =>
  obind (pPick (Tr.get .bad q4 fr) v9 (.bool false)) fun v10 =>
  forceG v10 fun v => Tr.setK .bad v q2 fr fun f2 =>
  k f2 h10)
 .ret)))), resF [.t 2]⟩
theorem g147_ok : Comp Tryz.prog Tryz.f147 1 [2, 3, 4, 9] g147 := ⟨_, [.t 2], rfl, by kernel_rfl, by decide, by kernel_rfl, by kernel_rfl, rfl, rfl⟩
/-- (*pianola/disk.Disk).do -/
def g148 : GFunc := ⟨1, (.seq (.reg fun _ fr h k =>
  forceG (.bool false) fun v => Tr.setK .bad v q2 fr fun f2 =>
  k f2 h)
 (.seq (.seq (.reg fun call fr h k =>
  obind (pNilck (Tr.get .bad q0 fr)) fun v0 =>
  obind (pFa 4 v0) fun v1 =>
  obind (rLd1 v1 h) fun v2 =>
  call q199 [(Tr.get .bad q0 fr)] h fun v3 h4 =>
  obind (pConv .u32 v3) fun v4 =>
  obind (pGeq v2 v4) fun v5 =>
  chk v2 (rLd1 v1 h4) <|
  forceG v5 fun v => Tr.setK .bad v q13 fr fun f13 =>
  k f13 h4)
 (.cond 13 q13 (.seq (.reg fun _ fr h k =>
  forceG (.bool false) fun v => Tr.setK .bad v q2 fr fun f2 =>
  k f2 h)
 .ret)
 .skip))
 (.seq (.reg fun _ fr h k =>
  obind (pNilck (Tr.get .bad q0 fr)) fun v0 =>
  obind (pFa 3 v0) fun v1 =>
  obind (rLd1 v1 h) fun v2 =>
  obind (pNilck (Tr.get .bad q0 fr)) fun v3 =>
  obind (pFa 4 v3) fun v4 =>
  obind (rLd1 v4 h) fun v5 =>
  obind (pConv .i64 v5) fun v6 =>
  obind (pMul v6 (.int .i64 (.ofNat 64))) fun v7 =>
  obind (pSlS 1 (some v7) none none v2) fun v8 =>
  obind (pSlS 1 none (some (.int .i64 (.ofNat 64))) none v8) fun v9 =>
  forceG v9 fun v => Tr.setK .bad v q3 fr fun f3 =>
  k f3 h)
 (.seq (.seq (.reg fun _ fr h k =>
  obind (pNilck (Tr.get .bad q0 fr)) fun v0 =>
  obind (pFa 6 v0) fun v1 =>
  obind (rLd1 v1 h) fun v2 =>
  forceG v2 fun v => Tr.setK .bad v q29 fr fun f29 =>
  k f29 h)
 (.block 0 (.seq (.reg fun _ fr h k =>
  obind (pEql (Tr.get .bad q29 fr) (.int .u32 (.ofNat 1))) fun v0 =>
  forceG v0 fun v => Tr.setK .bad v q30 fr fun f30 =>
  k f30 h)
 (.cond 30 q30 (.seq (.reg fun call fr h k =>
  obind (pNilck (Tr.get .bad q0 fr)) fun v0 =>
  obind (pFa 2 v0) fun v1 =>
  obind (rLd1 v1 h) fun v2 =>
  obind (pNilck (Tr.get .bad q0 fr)) fun v3 =>
  obind (pFa 5 v3) fun v4 =>
  obind (rLd1 v4 h) fun v5 =>
  call q29 [v2, v5, (Tr.get .bad q3 fr)] h fun v6 h7 =>
  forceG v6 fun v => Tr.setK .bad v q2 fr fun f2 =>
  k f2 h7)
 .ret)
 (.seq (.reg fun _ fr h k =>
  obind (pEql (Tr.get .bad q29 fr) (.int .u32 (.ofNat 2))) fun v0 =>
  forceG v0 fun v => Tr.setK .bad v q42 fr fun f42 =>
  k f42 h)
 (.cond 42 q42 (.seq (.reg fun call fr h k =>
  obind (pNilck (Tr.get .bad q0 fr)) fun v0 =>
  obind (pFa 2 v0) fun v1 =>
  obind (rLd1 v1 h) fun v2 =>
  obind (pNilck (Tr.get .bad q0 fr)) fun v3 =>
  obind (pFa 5 v3) fun v4 =>
  obind (rLd1 v4 h) fun v5 =>
  call q198 [v2, v5, (.int .i64 (.ofNat 64))] h fun v6 h7 =>
  obind (pExt 0 v6) fun v7 =>
  obind (pExt 1 v6) fun v8 =>
  forceG v7 fun v => Tr.setK .bad v q4 fr fun f4 =>
  forceG v8 fun v => Tr.setK .bad v q5 f4 fun f5 =>
  k f5 h7)
 (.seq (.reg fun _ fr h k =>
  obind2 (nCopy 1 (Tr.get .bad q3 fr) (Tr.get .bad q4 fr) h) fun _ h1 =>
  k fr h1)
 (.seq (.reg fun _ fr h k =>
  forceG (Tr.get .bad q5 fr) fun v => Tr.setK .bad v q2 fr fun f2 =>
  k f2 h)
 .ret)))
 .skip))))))
 (.seq (.reg fun _ fr h k =>
  forceG (.bool false) fun v => Tr.setK .bad v q2 fr fun f2 =>
  k f2 h)
 .ret))))), resF [.t 2]⟩
theorem g148_ok : Comp Tryz.prog Tryz.f148 1 [2, 3, 4, 5, 13, 29, 30, 42] g148 := ⟨_, [.t 2], rfl, by kernel_rfl, by decide, by kernel_rfl, by kernel_rfl, rfl, rfl⟩
/-- (*pianola/pianolaref2.Ram).Bytes -/
def g149 : GFunc := ⟨3, (.seq (.reg fun _ fr h k =>
  forceG .nils fun v => Tr.setK .bad v q6 fr fun f6 =>
  forceG (.bool false) fun v => Tr.setK .bad v q7 f6 fun f7 =>
  k f7 h)
 (.seq (.seq (.reg fun call fr h k =>
  call q85 [(Tr.get .bad q0 fr), (Tr.get .bad q1 fr), (Tr.get .bad q2 fr)] h fun v0 h1 =>
  obind (pNot v0) fun v1 =>
  forceG v1 fun v => Tr.setK .bad v q12 fr fun f12 =>
  k f12 h1)
 (.cond 12 q12 (.seq (.reg fun _ fr h k =>
  forceG .nils fun v => Tr.setK .bad v q6 fr fun f6 =>
  forceG (.bool false) fun v => Tr.setK .bad v q7 f6 fun f7 =>
  k f7 h)
 .ret)
 .skip))
 (.seq (.reg fun _ fr h k =>
  obind2 (nBuildS (rep [.int .u8 (.ofNat 0)] 0) 0 1 (some (.u8, 8)) [] h) fun v0 h1 =>
  obind (pNilck (Tr.get .bad q0 fr)) fun v1 =>
  obind (pFa 0 v1) fun v2 =>
  obind (rLd1 v2 h1) fun v3 =>
  obind (pConv .i64 (Tr.get .bad q1 fr)) fun v4 =>
  obind (pAdd v4 (Tr.get .bad q2 fr)) fun v5 =>
  obind (pSlS 1 (some (Tr.get .bad q1 fr)) (some v5) none v3) fun v6 =>
  obind2 (nAppend 1 1 (some (.u8, 8)) v0 v6 h1) fun v7 h8 =>
  forceG v7 fun v => Tr.setK .bad v q6 fr fun f6 =>
  forceG (.bool true) fun v => Tr.setK .bad v q7 f6 fun f7 =>
  k f7 h8)
 .ret))), resF [.t 6, .t 7]⟩
theorem g149_ok : Comp Tryz.prog Tryz.f149 3 [6, 7, 12] g149 := ⟨_, [.t 6, .t 7], rfl, by kernel_rfl, by decide, by kernel_rfl, by kernel_rfl, rfl, rfl⟩
/-- (*pianola/wheel.Wheel).Arm -/
def g196 : GFunc := ⟨3, (.seq (.reg fun _ fr h k =>
  forceG (.bool false) fun v => Tr.setK .bad v q6 fr fun f6 =>
  k f6 h)
 (.seq (.seq (.reg fun _ fr h k =>
  obind (pLss (Tr.get .bad q1 fr) (.int .i64 (.ofNat 0))) fun v0 =>
  guardC v0 false h (fun k => k (Tr.get .bad q1 fr) h) fun v1 h2 =>
  guardC v0 false h2 (fun k => obind (pGeq v1 (.int .i64 (.ofNat 16))) fun v => k v h2) fun v2 h3 =>
  obind (pPick v0 (.bool true) v2) fun v3 =>
  guardC v3 false h3 (fun k => k (Tr.get .bad q2 fr) h3) fun v4 h5 =>
  guardC v3 false h5 (fun k => obind (pLss v4 (.int .i64 (.ofNat 0))) fun v => k v h5) fun v5 h6 =>
  obind (pPick v3 (.bool true) v5) fun v6 =>
  forceG v6 fun v => Tr.setK .bad v q16 fr fun f16 =>
  k f16 h6)
 (.cond 16 q16 (.seq (.reg fun _ fr h k =>
  forceG (.bool false) fun v => Tr.setK .bad v q6 fr fun f6 =>
  k f6 h)
 .ret)
 .skip))
 (.seq (.reg fun call fr h k =>
  call q139 [(Tr.get .bad q0 fr), (Tr.get .bad q1 fr)] h fun _ h1 =>
  k fr h1)
 (.seq (.reg fun _ fr h k =>
  obind (pNilck (Tr.get .bad q0 fr)) fun v0 =>
  obind (pFa 0 v0) fun v1 =>
  obind (rLd1 v1 h) fun v2 =>
  obind (pNilck (Tr.get .bad q0 fr)) fun v3 =>
  obind (pFa 1 v3) fun v4 =>
  obind (rLd1 v4 h) fun v5 =>
  obind (pBuild [.int .i64 (.ofNat 0), .int .i64 (.ofNat 0), .int .i64 (.ofNat 0)] [(0, 1, (Tr.get .bad q2 fr)), (1, 1, (Tr.get .bad q1 fr)), (2, 1, v5)]) fun v6 =>
  obind2 (nBuildS (rep [.int .i64 (.ofNat 0), .int .i64 (.ofNat 0), .int .i64 (.ofNat 0)] 1) 1 3 none [(0, 3, v6)] h) fun v7 h8 =>
  obind2 (nAppend 3 24 none v2 v7 h8) fun v8 h9 =>
  obind (pNilck (Tr.get .bad q0 fr)) fun v9 =>
  obind (pFa 0 v9) fun v10 =>
  obind (wSt1 v10 v8 h9) fun h12 =>
  k fr h12)
 (.seq (.reg fun _ fr h k =>
  obind (pNilck (Tr.get .bad q0 fr)) fun v0 =>
  obind (pFa 1 v0) fun v1 =>
  obind (rLd1 v1 h) fun v2 =>
  obind (pAdd v2 (.int .i64 (.ofNat 1))) fun v3 =>
  obind (pNilck (Tr.get .bad q0 fr)) fun v4 =>
  obind (pFa 1 v4) fun v5 =>
  obind (wSt1 v5 v3 h) fun h7 =>
  k fr h7)
 (.seq (.reg fun call fr h k =>
  obind (pNilck (Tr.get .bad q0 fr)) fun v0 =>
  obind (pFa 0 v0) fun v1 =>
  obind (rLd1 v1 h) fun v2 =>
  call q226 [v2, (.fn q227 [])] h fun _ h4 =>
  k fr h4)
 (.seq (.reg fun _ fr h k =>
  forceG (.bool true) fun v => Tr.setK .bad v q6 fr fun f6 =>
  k f6 h)
 .ret))))))), resF [.t 6]⟩
theorem g196_ok : Comp Tryz.prog Tryz.f196 3 [6, 16] g196 := ⟨_, [.t 6], rfl, by kernel_rfl, by decide, by kernel_rfl, by kernel_rfl, rfl, rfl⟩
/-- (*pianola/wheel.Wheel).find -/
def g197 : GFunc := ⟨2, (.seq (.reg fun _ fr h k =>
  obind2 (nBox (Tr.get .bad q1 fr) h) fun v0 h1 =>
  forceG v0 fun v => Tr.setK .bad v q3 fr fun f3 =>
  forceG (.int .i64 (.ofNat 0)) fun v => Tr.setK .bad v q4 f3 fun f4 =>
  k f4 h1)
 (.seq (.reg fun call fr h k =>
  obind (pNilck (Tr.get .bad q0 fr)) fun v0 =>
  obind (pFa 0 v0) fun v1 =>
  obind (rLd1 v1 h) fun v2 =>
  obind (pFn q230 [(Tr.get .bad q3 fr)]) fun v3 =>
  call q229 [v2, v3] h fun v4 h5 =>
  forceG v4 fun v => Tr.setK .bad v q4 fr fun f4 =>
  k f4 h5)
 .ret)), resF [.t 4]⟩
theorem g197_ok : Comp Tryz.prog Tryz.f197 2 [3, 4] g197 := ⟨_, [.t 4], rfl, by kernel_rfl, by decide, by kernel_rfl, by kernel_rfl, rfl, rfl⟩
/-- (*pianola/ram.Ram).Bytes -/
def g198 : GFunc := ⟨3, (.seq (.reg fun _ fr h k =>
  forceG .nils fun v => Tr.setK .bad v q6 fr fun f6 =>
  forceG (.bool false) fun v => Tr.setK .bad v q7 f6 fun f7 =>
  k f7 h)
 (.seq (.seq (.reg fun call fr h k =>
  call q77 [(Tr.get .bad q0 fr), (Tr.get .bad q1 fr), (Tr.get .bad q2 fr)] h fun v0 h1 =>
  obind (pNot v0) fun v1 =>
  forceG v1 fun v => Tr.setK .bad v q12 fr fun f12 =>
  k f12 h1)
 (.cond 12 q12 (.seq (.reg fun _ fr h k =>
  forceG .nils fun v => Tr.setK .bad v q6 fr fun f6 =>
  forceG (.bool false) fun v => Tr.setK .bad v q7 f6 fun f7 =>
  k f7 h)
 .ret)
 .skip))
 (.seq (.reg fun call fr h k =>
  obind (pNilck (Tr.get .bad q0 fr)) fun v0 =>
  obind (pFa 0 v0) fun v1 =>
  obind (rLd1 v1 h) fun v2 =>
  obind (pConv .i64 (Tr.get .bad q1 fr)) fun v3 =>
  obind (pAdd v3 (Tr.get .bad q2 fr)) fun v4 =>
  obind (pSlS 1 (some (Tr.get .bad q1 fr)) (some v4) none v2) fun v5 =>
  call q146 [v5] h fun v6 h7 =>
  forceG v6 fun v => Tr.setK .bad v q6 fr fun f6 =>
  forceG (.bool true) fun v => Tr.setK .bad v q7 f6 fun f7 =>
  k f7 h7)
 .ret))), resF [.t 6, .t 7]⟩
theorem g198_ok : Comp Tryz.prog Tryz.f198 3 [6, 7, 12] g198 := ⟨_, [.t 6, .t 7], rfl, by kernel_rfl, by decide, by kernel_rfl, by kernel_rfl, rfl, rfl⟩
/-- (*pianola/disk.Disk).Sectors -/
def g199 : GFunc := ⟨1, (.seq (.reg fun _ fr h k =>
  forceG (.int .i64 (.ofNat 0)) fun v => Tr.setK .bad v q2 fr fun f2 =>
  k f2 h)
 (.seq (.reg fun _ fr h k =>
  obind (pNilck (Tr.get .bad q0 fr)) fun v0 =>
  obind (pFa 3 v0) fun v1 =>
  obind (rLd1 v1 h) fun v2 =>
  obind (pLenS v2) fun v3 =>
  obind (pQuo v3 (.int .i64 (.ofNat 64))) fun v4 =>
  forceG v4 fun v => Tr.setK .bad v q2 fr fun f2 =>
  k f2 h)
 .ret)), resF [.t 2]⟩
theorem g199_ok : Comp Tryz.prog Tryz.f199 1 [2] g199 := ⟨_, [.t 2], rfl, by kernel_rfl, by decide, by kernel_rfl, by kernel_rfl, rfl, rfl⟩
/-- slices.SortStableFunc[[]pianola/api.Event,pianola/api.Event] -/
def g226 : GFunc := ⟨2, (.reg fun call fr h k =>
  obind (pLenS (Tr.get .bad q0 fr)) fun v0 =>
  call q240 [(Tr.get .bad q0 fr), v0, (Tr.get .bad q1 fr)] h fun _ h2 =>
  k fr h2), resF []⟩
theorem g226_ok : Comp Tryz.prog Tryz.f226 2 [] g226 := ⟨_, [], rfl, by kernel_rfl, by decide, by kernel_rfl, by kernel_rfl, rfl, rfl⟩
/-- (*pianola/wheel.Wheel).Arm$1 -/
def g227 : GFunc := ⟨2, (.seq (.reg fun _ fr h k =>
  obind2 (nBox (Tr.get .bad q0 fr) h) fun v0 h1 =>
  obind2 (nBox (Tr.get .bad q1 fr) h1) fun v1 h2 =>
  forceG v0 fun v => Tr.setK .bad v q2 fr fun f2 =>
  forceG v1 fun v => Tr.setK .bad v q3 f2 fun f3 =>
  forceG (.int .i64 (.ofNat 0)) fun v => Tr.setK .bad v q4 f3 fun f4 =>
  k f4 h2)
 (.seq (.reg fun call fr h k =>
  obind (pFa 0 (Tr.get .bad q2 fr)) fun v0 =>
  obind (rLd1 v0 h) fun v1 =>
  obind (pFa 0 (Tr.get .bad q3 fr)) fun v2 =>
  obind (rLd1 v2 h) fun v3 =>
  call q228 [v1, v3] h fun v4 h5 =>
  forceG v4 fun v => Tr.setK .bad v q4 fr fun f4 =>
  k f4 h5)
 .ret)), resF [.t 4]⟩
theorem g227_ok : Comp Tryz.prog Tryz.f227 2 [2, 3, 4] g227 := ⟨_, [.t 4], rfl, by kernel_rfl, by decide, by kernel_rfl, by kernel_rfl, rfl, rfl⟩
/-- cmp.Compare[int64] -/
def g228 : GFunc := ⟨2, (.seq (.reg fun _ fr h k =>
  forceG (.int .i64 (.ofNat 0)) fun v => Tr.setK .bad v q4 fr fun f4 =>
  k f4 h)
 (.seq (.reg fun call fr h k =>
  call q241 [(Tr.get .bad q0 fr)] h fun v0 h1 =>
  forceG v0 fun v => Tr.setK .bad v q5 fr fun f5 =>
  k f5 h1)
 (.seq (.reg fun call fr h k =>
  call q241 [(Tr.get .bad q1 fr)] h fun v0 h1 =>
  forceG v0 fun v => Tr.setK .bad v q6 fr fun f6 =>
  k f6 h1)
 (.seq (.seq (.reg fun _ fr h k =>
  forceG (Tr.get .bad q5 fr) fun v => Tr.setK .bad v q11 fr fun f11 =>
  k f11 h)
 (.cond 11 q11 (.seq (.seq (.reg fun _ fr h k =>
  forceG (Tr.get .bad q6 fr) fun v => Tr.setK .bad v q12 fr fun f12 =>
  k f12 h)
 (.cond 12 q12 (.seq (.reg fun _ fr h k =>
  forceG (.int .i64 (.ofNat 0)) fun v => Tr.setK .bad v q4 fr fun f4 =>
  k f4 h)
 .ret)
 .skip))
 (.seq (.reg fun _ fr h k =>
  forceG (.int .i64 (.negSucc 0)) fun v => Tr.setK .bad v q4 fr fun f4 =>
  k f4 h)
 .ret))
 .skip))
 (.seq (.seq (.reg fun _ fr h k =>
  forceG (Tr.get .bad q6 fr) fun v => Tr.setK .bad v q13 fr fun f13 =>
  k f13 h)
 (.cond 13 q13 (.seq (.reg fun _ fr h k =>
  forceG (.int .i64 (.ofNat 1)) fun v => Tr.setK .bad v q4 fr fun f4 =>
  k f4 h)
 .ret)
 .skip))
 (.seq (.seq (.reg fun _ fr h k =>
  obind (pLss (Tr.get .bad q0 fr) (Tr.get .bad q1 fr)) fun v0 =>
  forceG v0 fun v => Tr.setK .bad v q16 fr fun f16 =>
  k f16 h)
 (.cond 16 q16 (.seq (.reg fun _ fr h k =>
  forceG (.int .i64 (.negSucc 0)) fun v => Tr.setK .bad v q4 fr fun f4 =>
  k f4 h)
 .ret)
 .skip))
 (.seq (.seq (.reg fun _ fr h k =>
  obind (pGtr (Tr.get .bad q0 fr) (Tr.get .bad q1 fr)) fun v0 =>
  forceG v0 fun v => Tr.setK .bad v q19 fr fun f19 =>
  k f19 h)
 (.cond 19 q19 (.seq (.reg fun _ fr h k =>
  forceG (.int .i64 (.ofNat 1)) fun v => Tr.setK .bad v q4 fr fun f4 =>
  k f4 h)
 .ret)
 .skip))
 (.seq (.reg fun _ fr h k =>
  forceG (.int .i64 (.ofNat 0)) fun v => Tr.setK .bad v q4 fr fun f4 =>
  k f4 h)
 .ret)))))))), resF [.t 4]⟩
theorem g228_ok : Comp Tryz.prog Tryz.f228 2 [4, 5, 6, 11, 12, 13, 16, 19] g228 := ⟨_, [.t 4], rfl, by kernel_rfl, by decide, by kernel_rfl, by kernel_rfl, rfl, rfl⟩
/-- slices.IndexFunc[[]pianola/api.Event,pianola/api.Event] -/
def g229 : GFunc := ⟨2, (.seq (.reg fun _ fr h k =>
  forceG (.int .i64 (.ofNat 0)) fun v => Tr.setK .bad v q4 fr fun f4 =>
  k f4 h)
 (.seq (.seq (.reg fun _ fr h k =>
  obind (pLenS (Tr.get .bad q0 fr)) fun v0 =>
  forceG v0 fun v => Tr.setK .bad v q7 fr fun f7 =>
  forceG (.int .i64 (.ofNat 0)) fun v => Tr.setK .bad v q8 f7 fun f8 =>
  k f8 h)
 (.block 0 (.loop (.seq (.reg fun _ fr h k =>
  obind (pLss (Tr.get .bad q8 fr) (Tr.get .bad q7 fr)) fun v0 =>
  forceG v0 fun v => Tr.setK .bad v q9 fr fun f9 =>
  k f9 h)
 (.seq (.cond 9 q9 .skip
 (.exit 0))
 (.seq (.block 1 (.seq (.reg fun _ fr h k =>
  forceG (Tr.get .bad q8 fr) fun v => Tr.setK .bad v q5 fr fun f5 =>
  k f5 h)
 (.seq (.reg fun call fr h k =>
  obind (pIdxS 3 (Tr.get .bad q0 fr) (Tr.get .bad q5 fr)) fun v0 =>
  obind (rLdN 3 v0 h) fun v1 =>
  callF call (Tr.get .bad q1 fr) [v1] h fun v2 h3 =>
  forceG v2 fun v => Tr.setK .bad v q16 fr fun f16 =>
  k f16 h3)
 (.cond 16 q16 (.seq (.reg fun _ fr h k =>
  forceG (Tr.get .bad q5 fr) fun v => Tr.setK .bad v q4 fr fun f4 =>
  k f4 h)
 .ret)
 .skip))))
 (.reg fun _ fr h k =>
  obind (pAdd (Tr.get .bad q8 fr) (.int .i64 (.ofNat 1))) fun v0 =>
  forceG v0 fun v => Tr.setK .bad v q8 fr fun f8 =>
  k f8 h)))))))
 (.seq (.reg fun _ fr h k =>
  forceG (.int .i64 (.negSucc 0)) fun v => Tr.setK .bad v q4 fr fun f4 =>
  k f4 h)
 .ret))), resF [.t 4]⟩
theorem g229_ok : Comp Tryz.prog Tryz.f229 2 [4, 5, 7, 8, 9, 16] g229 := ⟨_, [.t 4], rfl, by kernel_rfl, by decide, by kernel_rfl, by kernel_rfl, rfl, rfl⟩
/-- (*pianola/wheel.Wheel).find$1 -/
def g230 : GFunc := ⟨2, (.seq (.reg fun _ fr h k =>
  obind2 (nBox (Tr.get .bad q0 fr) h) fun v0 h1 =>
  forceG v0 fun v => Tr.setK .bad v q2 fr fun f2 =>
  forceG (.bool false) fun v => Tr.setK .bad v q3 f2 fun f3 =>
  k f3 h1)
 (.seq (.reg fun _ fr h k =>
  obind (pFa 1 (Tr.get .bad q2 fr)) fun v0 =>
  obind (rLd1 v0 h) fun v1 =>
  obind (rLd1 (Tr.get .bad q1 fr) h) fun v2 =>
  obind (pEql v1 v2) fun v3 =>
  forceG v3 fun v => Tr.setK .bad v q3 fr fun f3 =>
  k f3 h)
 .ret)), resF [.t 3]⟩
theorem g230_ok : Comp Tryz.prog Tryz.f230 2 [2, 3] g230 := ⟨_, [.t 3], rfl, by kernel_rfl, by decide, by kernel_rfl, by kernel_rfl, rfl, rfl⟩
/-- slices.stableCmpFunc[pianola/api.Event] -/
def g240 : GFunc := ⟨3, (.seq (.reg fun _ fr h k =>
  forceG (.int .i64 (.ofNat 20)) fun v => Tr.setK .bad v q6 fr fun f6 =>
  k f6 h)
 (.seq (.reg fun _ fr h k =>
  forceG (.int .i64 (.ofNat 0)) fun v => Tr.setK .bad v q7 fr fun f7 =>
  forceG (Tr.get .bad q6 fr) fun v => Tr.setK .bad v q8 f7 fun f8 =>
  k f8 h)
 (.seq (.block 0 (.loop (.seq (.seq (.reg fun _ fr h k =>
  obind (pLeq (Tr.get .bad q8 fr) (Tr.get .bad q1 fr)) fun v0 =>
  forceG v0 fun v => Tr.setK .bad v q13 fr fun f13 =>
  k f13 h)
 (.cond 13 q13 .skip
 (.exit 0)))
 (.block 1 (.seq (.reg fun call fr h k =>
  call q247 [(Tr.get .bad q0 fr), (Tr.get .bad q7 fr), (Tr.get .bad q8 fr), (Tr.get .bad q2 fr)] h fun _ h1 =>
  k fr h1)
 (.seq (.reg fun _ fr h k =>
  forceG (Tr.get .bad q8 fr) fun v => Tr.setK .bad v q7 fr fun f7 =>
  k f7 h)
 (.reg fun _ fr h k =>
  obind (pAdd (Tr.get .bad q8 fr) (Tr.get .bad q6 fr)) fun v0 =>
  forceG v0 fun v => Tr.setK .bad v q8 fr fun f8 =>
  k f8 h)))))))
 (.seq (.reg fun call fr h k =>
  call q247 [(Tr.get .bad q0 fr), (Tr.get .bad q7 fr), (Tr.get .bad q1 fr), (Tr.get .bad q2 fr)] h fun _ h1 =>
  k fr h1)
 (.block 2 (.loop (.seq (.seq (.reg fun _ fr h k =>
  obind (pLss (Tr.get .bad q6 fr) (Tr.get .bad q1 fr)) fun v0 =>
  forceG v0 fun v => Tr.setK .bad v q30 fr fun f30 =>
  k f30 h)
 (.cond 30 q30 .skip
 (.exit 2)))
 (.block 3 (.seq (.reg fun _ fr h k =>
  obind (pMul (.int .i64 (.ofNat 2)) (Tr.get .bad q6 fr)) fun v0 =>
  forceG (.int .i64 (.ofNat 0)) fun v => Tr.setK .bad v q7 fr fun f7 =>
  forceG v0 fun v => Tr.setK .bad v q8 f7 fun f8 =>
  k f8 h)
 (.seq (.block 4 (.loop (.seq (.seq (.reg fun _ fr h k =>
  obind (pLeq (Tr.get .bad q8 fr) (Tr.get .bad q1 fr)) fun v0 =>
  forceG v0 fun v => Tr.setK .bad v q35 fr fun f35 =>
  k f35 h)
 (.cond 35 q35 .skip
 (.exit 4)))
 (.block 5 (.seq (.reg fun call fr h k =>
  obind (pAdd (Tr.get .bad q7 fr) (Tr.get .bad q6 fr)) fun v0 =>
  call q248 [(Tr.get .bad q0 fr), (Tr.get .bad q7 fr), v0, (Tr.get .bad q8 fr), (Tr.get .bad q2 fr)] h fun _ h2 =>
  k fr h2)
 (.seq (.reg fun _ fr h k =>
  forceG (Tr.get .bad q8 fr) fun v => Tr.setK .bad v q7 fr fun f7 =>
  k f7 h)
 (.reg fun _ fr h k =>
  obind (pMul (.int .i64 (.ofNat 2)) (Tr.get .bad q6 fr)) fun v0 =>
  obind (pAdd (Tr.get .bad q8 fr) v0) fun v1 =>
  forceG v1 fun v => Tr.setK .bad v q8 fr fun f8 =>
  k f8 h)))))))
 (.seq (.seq (.reg fun _ fr h k =>
  obind (pAdd (Tr.get .bad q7 fr) (Tr.get .bad q6 fr)) fun v0 =>
  forceG v0 fun v => Tr.setK .bad v q9 fr fun f9 =>
  k f9 h)
 (.seq (.reg fun _ fr h k =>
  obind (pLss (Tr.get .bad q9 fr) (Tr.get .bad q1 fr)) fun v0 =>
  forceG v0 fun v => Tr.setK .bad v q54 fr fun f54 =>
  k f54 h)
 (.cond 54 q54 (.reg fun call fr h k =>
  call q248 [(Tr.get .bad q0 fr), (Tr.get .bad q7 fr), (Tr.get .bad q9 fr), (Tr.get .bad q1 fr), (Tr.get .bad q2 fr)] h fun _ h1 =>
  k fr h1)
 .skip)))
 (.reg fun _ fr h k =>
  obind (pMul (Tr.get .bad q6 fr) (.int .i64 (.ofNat 2))) fun v0 =>
  forceG v0 fun v => Tr.setK .bad v q6 fr fun f6 =>
  k f6 h)))))))))))), resF []⟩
theorem g240_ok : Comp Tryz.prog Tryz.f240 3 [6, 7, 8, 9, 13, 30, 35, 54] g240 := ⟨_, [], rfl, by kernel_rfl, by decide, by kernel_rfl, by kernel_rfl, rfl, rfl⟩
/-- cmp.isNaN[int64] -/
def g241 : GFunc := ⟨1, (.seq (.reg fun _ fr h k =>
  forceG (.bool false) fun v => Tr.setK .bad v q2 fr fun f2 =>
  k f2 h)
 (.seq (.reg fun _ fr h k =>
  obind (pNeq (Tr.get .bad q0 fr) (Tr.get .bad q0 fr)) fun v0 =>
  forceG v0 fun v => Tr.setK .bad v q2 fr fun f2 =>
  k f2 h)
 .ret)), resF [.t 2]⟩
theorem g241_ok : Comp Tryz.prog Tryz.f241 1 [2] g241 := ⟨_, [.t 2], rfl, by kernel_rfl, by decide, by kernel_rfl, by kernel_rfl, rfl, rfl⟩
/-- slices.insertionSortCmpFunc[pianola/api.Event] -/
def g247 : GFunc := ⟨4, (.seq (.reg fun _ fr h k =>
  obind (pAdd (Tr.get .bad q1 fr) (.int .i64 (.ofNat 1))) fun v0 =>
  forceG v0 fun v => Tr.setK .bad v q8 fr fun f8 =>
  k f8 h)
 (.block 0 (.loop (.seq (.seq (.reg fun _ fr h k =>
  obind (pLss (Tr.get .bad q8 fr) (Tr.get .bad q2 fr)) fun v0 =>
  forceG v0 fun v => Tr.setK .bad v q14 fr fun f14 =>
  k f14 h)
 (.cond 14 q14 .skip
 (.exit 0)))
 (.seq (.block 1 (.seq (.reg fun _ fr h k =>
  forceG (Tr.get .bad q8 fr) fun v => Tr.setK .bad v q9 fr fun f9 =>
  k f9 h)
 (.block 2 (.loop (.seq (.seq (.reg fun call fr h k =>
  obind (pGtr (Tr.get .bad q9 fr) (Tr.get .bad q1 fr)) fun v0 =>
  guardC v0 true h (fun k => k (Tr.get .bad q3 fr) h) fun v1 h2 =>
  guardC v0 true h2 (fun k => k (Tr.get .bad q0 fr) h2) fun v2 h3 =>
  guardC v0 true h3 (fun k => k (Tr.get .bad q9 fr) h3) fun v3 h4 =>
  guardC v0 true h4 (fun k => obind (pIdxS 3 v2 v3) fun v => k v h4) fun v4 h5 =>
  guardC v0 true h5 (fun k => obind (rLdN 3 v4 h5) fun v => k v h5) fun v5 h6 =>
  guardC v0 true h6 (fun k => k (Tr.get .bad q0 fr) h6) fun v6 h7 =>
  guardC v0 true h7 (fun k => k (Tr.get .bad q9 fr) h7) fun v7 h8 =>
  guardC v0 true h8 (fun k => obind (pSub v7 (.int .i64 (.ofNat 1))) fun v => k v h8) fun v8 h9 =>
  guardC v0 true h9 (fun k => obind (pIdxS 3 v6 v8) fun v => k v h9) fun v9 h10 =>
  guardC v0 true h10 (fun k => obind (rLdN 3 v9 h10) fun v => k v h10) fun v10 h11 =>
  guardC v0 true h11 (fun k => callF call v1 [v5, v10] h11 k) fun v11 h12 =>
  guardC v0 true h12 (fun k => obind (pLss v11 (.int .i64 (.ofNat 0))) fun v => k v h12) fun v12 h13 =>
  obind (pPick v0 v12 (.bool false)) fun v13 =>
  forceG v13 fun v => Tr.setK .bad v q34 fr fun f34 =>
  k f34 h13)
 (.cond 34 q34 .skip
 (.exit 2)))
 (.seq (.block 3 (.reg fun _ fr h k =>
  obind (pSub (Tr.get .bad q9 fr) (.int .i64 (.ofNat 1))) fun v0 =>
  obind (pSub (Tr.get .bad q9 fr) (.int .i64 (.ofNat 1))) fun v1 =>
  obind (pIdxS 3 (Tr.get .bad q0 fr) v1) fun v2 =>
  obind (rLdN 3 v2 h) fun v3 =>
  obind (pIdxS 3 (Tr.get .bad q0 fr) (Tr.get .bad q9 fr)) fun v4 =>
  obind (rLdN 3 v4 h) fun v5 =>
  obind (pIdxS 3 (Tr.get .bad q0 fr) (Tr.get .bad q9 fr)) fun v6 =>
  obind (wStN 3 v6 v3 h) fun h8 =>
  obind (pIdxS 3 (Tr.get .bad q0 fr) v0) fun v8 =>
  obind (wStN 3 v8 v5 h8) fun h10 =>
  k fr h10))
 (.reg fun _ fr h k =>
  obind (pSub (Tr.get .bad q9 fr) (.int .i64 (.ofNat 1))) fun v0 =>
  forceG v0 fun v => Tr.setK .bad v q9 fr fun f9 =>
  k f9 h)))))))
 (.reg fun _ fr h k =>
  obind (pAdd (Tr.get .bad q8 fr) (.int .i64 (.ofNat 1))) fun v0 =>
  forceG v0 fun v => Tr.setK .bad v q8 fr fun f8 =>
  k f8 h)))))), resF []⟩
theorem g247_ok : Comp Tryz.prog Tryz.f247 4 [8, 9, 14, 34] g247 := ⟨_, [], rfl, by kernel_rfl, by decide, by kernel_rfl, by kernel_rfl, rfl, rfl⟩
end
end Go.Ev
