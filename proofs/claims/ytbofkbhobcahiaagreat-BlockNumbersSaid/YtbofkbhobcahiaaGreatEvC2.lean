/- Ghost code of the Go functions, printed by a program of this session (genfiles.py). -/
import Derived.Test.YtbofkbhobcahiaaGreatEvComp
import Derived.Test.YtbofkbhobcahiaaGreatProg
namespace Go.Ev
open Go.Proofs
set_option maxRecDepth 100000
noncomputable section
/-- (*pianola/pianolaref2.Ram).In -/
def g85 : GFunc := ⟨3, (.seq (.reg fun _ fr h k =>
  forceG (.bool false) fun v => Tr.setK .bad v q6 fr fun f6 =>
  k f6 h)
 (.seq (.reg fun _ fr h k =>
  obind (pGeq (Tr.get .bad q2 fr) (.int .i64 (.ofNat 0))) fun v0 =>
  guardC v0 true h (fun k => k (Tr.get .bad q1 fr) h) fun v1 h2 =>
  guardC v0 true h2 (fun k => obind (pConv .u64 v1) fun v => k v h2) fun v2 h3 =>
  guardC v0 true h3 (fun k => k (Tr.get .bad q2 fr) h3) fun v3 h4 =>
  guardC v0 true h4 (fun k => obind (pConv .u64 v3) fun v => k v h4) fun v4 h5 =>
  guardC v0 true h5 (fun k => obind (pAdd v2 v4) fun v => k v h5) fun v5 h6 =>
  guardC v0 true h6 (fun k => k (Tr.get .bad q0 fr) h6) fun v6 h7 =>
  guardC v0 true h7 (fun k => obind (pNilck v6) fun v => k v h7) fun v7 h8 =>
  guardC v0 true h8 (fun k => obind (pFa 0 v7) fun v => k v h8) fun v8 h9 =>
  guardC v0 true h9 (fun k => obind (rLd1 v8 h9) fun v => k v h9) fun v9 h10 =>
  guardC v0 true h10 (fun k => obind (pLenS v9) fun v => k v h10) fun v10 h11 =>
  guardC v0 true h11 (fun k => obind (pConv .u64 v10) fun v => k v h11) fun v11 h12 =>
  guardC v0 true h12 (fun k => obind (pLeq v5 v11) fun v => k v h12) fun v12 h13 =>
  obind (pPick v0 v12 (.bool false)) fun v13 =>
  forceG v13 fun v => Tr.setK .bad v q6 fr fun f6 =>
  k f6 h13)
 .ret)), resF [.t 6]⟩
theorem g85_ok : Comp Tryz.prog Tryz.f85 3 [6] g85 := ⟨_, [.t 6], rfl, by kernel_rfl, by decide, by kernel_rfl, by kernel_rfl, rfl, rfl⟩
/-- pianola/pianolaref15.bit -/
def g86 : GFunc := ⟨2, (.seq (.reg fun _ fr h k =>
  forceG (.int .u32 (.ofNat 0)) fun v => Tr.setK .bad v q4 fr fun f4 =>
  k f4 h)
 (.seq (.seq (.reg fun _ fr h k =>
  forceG (Tr.get .bad q0 fr) fun v => Tr.setK .bad v q5 fr fun f5 =>
  k f5 h)
 (.cond 5 q5 (.seq (.reg fun _ fr h k =>
  obind (pShl (.int .u32 (.ofNat 1)) (Tr.get .bad q1 fr)) fun v0 =>
  forceG v0 fun v => Tr.setK .bad v q4 fr fun f4 =>
  k f4 h)
 .ret)
 .skip))
 (.seq (.reg fun _ fr h k =>
  forceG (.int .u32 (.ofNat 0)) fun v => Tr.setK .bad v q4 fr fun f4 =>
  k f4 h)
 .ret))), resF [.t 4]⟩
theorem g86_ok : Comp Tryz.prog Tryz.f86 2 [4, 5] g86 := ⟨_, [.t 4], rfl, by kernel_rfl, by decide, by kernel_rfl, by kernel_rfl, rfl, rfl⟩
/-- (*pianola/pianolaref15.Bus).Line -/
def g87 : GFunc := ⟨2, (.seq (.reg fun _ fr h k =>
  forceG (.bool false) fun v => Tr.setK .bad v q4 fr fun f4 =>
  k f4 h)
 (.seq (.seq (.reg fun _ fr h k =>
  forceG (Tr.get .bad q1 fr) fun v => Tr.setK .bad v q5 fr fun f5 =>
  k f5 h)
 (.block 0 (.seq (.seq (.reg fun _ fr h k =>
  obind (pEql (Tr.get .bad q5 fr) (.int .i64 (.ofNat 1))) fun v0 =>
  forceG v0 fun v => Tr.setK .bad v q6 fr fun f6 =>
  k f6 h)
 (.cond 6 q6 .skip
 (.reg fun _ fr h k =>
  obind (pEql (Tr.get .bad q5 fr) (.int .i64 (.ofNat 2))) fun v0 =>
  forceG v0 fun v => Tr.setK .bad v q6 fr fun f6 =>
  k f6 h)))
 (.cond 6 q6 (.seq (.reg fun _ fr h k =>
  obind (pSub (Tr.get .bad q1 fr) (.int .i64 (.ofNat 1))) fun v0 =>
  obind (pNilck (Tr.get .bad q0 fr)) fun v1 =>
  obind (pFa 3 v1) fun v2 =>
  obind (pIdxA 2 3 v2 v0) fun v3 =>
  obind (pFa 2 v3) fun v4 =>
  obind (rLd1 v4 h) fun v5 =>
  obind (pNeq v5 (.int .u32 (.ofNat 0))) fun v6 =>
  forceG v6 fun v => Tr.setK .bad v q4 fr fun f4 =>
  k f4 h)
 .ret)
 (.seq (.reg fun _ fr h k =>
  obind (pEql (Tr.get .bad q5 fr) (.int .i64 (.ofNat 3))) fun v0 =>
  forceG v0 fun v => Tr.setK .bad v q18 fr fun f18 =>
  k f18 h)
 (.cond 18 q18 (.seq (.reg fun _ fr h k =>
  obind (pNilck (Tr.get .bad q0 fr)) fun v0 =>
  obind (pFa 9 v0) fun v1 =>
  obind (pFa 3 v1) fun v2 =>
  obind (rLd1 v2 h) fun v3 =>
  obind (pAnd v3 (.int .u32 (.ofNat 1))) fun v4 =>
  obind (pNeq v4 (.int .u32 (.ofNat 0))) fun v5 =>
  guardC v5 true h (fun k => k (Tr.get .bad q0 fr) h) fun v6 h7 =>
  guardC v5 true h7 (fun k => obind (pNilck v6) fun v => k v h7) fun v7 h8 =>
  guardC v5 true h8 (fun k => obind (pFa 9 v7) fun v => k v h8) fun v8 h9 =>
  guardC v5 true h9 (fun k => obind (pFa 0 v8) fun v => k v h9) fun v9 h10 =>
  guardC v5 true h10 (fun k => obind (rLd1 v9 h10) fun v => k v h10) fun v10 h11 =>
  guardC v5 true h11 (fun k => obind (pLenS v10) fun v => k v h11) fun v11 h12 =>
  guardC v5 true h12 (fun k => obind (pGtr v11 (.int .i64 (.ofNat 0))) fun v => k v h12) fun v12 h13 =>
  obind (pPick v5 v12 (.bool false)) fun v13 =>
  guardC v13 false h13 (fun k => k (Tr.get .bad q0 fr) h13) fun v14 h15 =>
  guardC v13 false h15 (fun k => obind (pNilck v14) fun v => k v h15) fun v15 h16 =>
  guardC v13 false h16 (fun k => obind (pFa 9 v15) fun v => k v h16) fun v16 h17 =>
  guardC v13 false h17 (fun k => obind (pFa 3 v16) fun v => k v h17) fun v17 h18 =>
  guardC v13 false h18 (fun k => obind (rLd1 v17 h18) fun v => k v h18) fun v18 h19 =>
  guardC v13 false h19 (fun k => obind (pAnd v18 (.int .u32 (.ofNat 2))) fun v => k v h19) fun v19 h20 =>
  guardC v13 false h20 (fun k => obind (pNeq v19 (.int .u32 (.ofNat 0))) fun v => k v h20) fun v20 h21 =>
  guardC v13 false h21 (fun k => k v20 h21) fun v21 h22 =>
  guardC v21 true h22 (fun k => k (Tr.get .bad q0 fr) h22) fun v22 h23 =>
  guardC v21 true h23 (fun k => obind (pNilck v22) fun v => k v h23) fun v23 h24 =>
  guardC v21 true h24 (fun k => obind (pFa 9 v23) fun v => k v h24) fun v24 h25 =>
  guardC v21 true h25 (fun k => obind (pFa 1 v24) fun v => k v h25) fun v25 h26 =>
  guardC v21 true h26 (fun k => obind (rLd1 v25 h26) fun v => k v h26) fun v26 h27 =>
  guardC v21 true h27 (fun k => obind (pLenS v26) fun v => k v h27) fun v27 h28 =>
  guardC v21 true h28 (fun k => obind (pEql v27 (.int .i64 (.ofNat 0))) fun v => k v h28) fun v28 h29 =>
  guardC v13 false h29 (fun k => obind (pPick v21 v28 (.bool false)) fun v => k v h29) fun v29 h30 =>
  obind (pPick v13 (.bool true) v29) fun v30 =>
  forceG v30 fun v => Tr.setK .bad v q4 fr fun f4 =>
  k f4 h30)
 .ret)
 (.seq (.reg fun _ fr h k =>
  obind (pEql (Tr.get .bad q5 fr) (.int .i64 (.ofNat 4))) fun v0 =>
  forceG v0 fun v => Tr.setK .bad v q54 fr fun f54 =>
  k f54 h)
 (.cond 54 q54 (.seq (.reg fun _ fr h k =>
  obind (pNilck (Tr.get .bad q0 fr)) fun v0 =>
  obind (pFa 14 v0) fun v1 =>
  obind (pFa 3 v1) fun v2 =>
  obind (rLd1 v2 h) fun v3 =>
  obind (pAnd v3 (.int .u32 (.ofNat 6))) fun v4 =>
  obind (pNeq v4 (.int .u32 (.ofNat 0))) fun v5 =>
  forceG v5 fun v => Tr.setK .bad v q4 fr fun f4 =>
  k f4 h)
 .ret)
 (.seq (.reg fun _ fr h k =>
  obind (pEql (Tr.get .bad q5 fr) (.int .i64 (.ofNat 5))) fun v0 =>
  forceG v0 fun v => Tr.setK .bad v q63 fr fun f63 =>
  k f63 h)
 (.cond 63 q63 (.seq (.reg fun _ fr h k =>
  obind (pNilck (Tr.get .bad q0 fr)) fun v0 =>
  obind (pFa 18 v0) fun v1 =>
  obind (pFa 3 v1) fun v2 =>
  obind (rLd1 v2 h) fun v3 =>
  obind (pAnd v3 (.int .u32 (.ofNat 6))) fun v4 =>
  obind (pNeq v4 (.int .u32 (.ofNat 0))) fun v5 =>
  forceG v5 fun v => Tr.setK .bad v q4 fr fun f4 =>
  k f4 h)
 .ret)
 .skip))))))))))
 (.seq (.reg fun _ fr h k =>
  forceG (.bool false) fun v => Tr.setK .bad v q4 fr fun f4 =>
  k f4 h)
 .ret))), resF [.t 4]⟩
theorem g87_ok : Comp Tryz.prog Tryz.f87 2 [4, 5, 6, 18, 54, 63] g87 := ⟨_, [.t 4], rfl, by kernel_rfl, by decide, by kernel_rfl, by kernel_rfl, rfl, rfl⟩
/-- (*pianola/pianolaref2.Ram).touch -/
def g93 : GFunc := ⟨3, (.seq (.reg fun _ fr h k =>
  forceG (.int .i64 (.ofNat 0)) fun v => Tr.setK .bad v q6 fr fun f6 =>
  k f6 h)
 (.block 0 (.loop (.seq (.seq (.reg fun _ fr h k =>
  obind (pLss (Tr.get .bad q6 fr) (Tr.get .bad q2 fr)) fun v0 =>
  forceG v0 fun v => Tr.setK .bad v q10 fr fun f10 =>
  k f10 h)
 (.cond 10 q10 .skip
 (.exit 0)))
 (.seq (.block 1 (.seq (.reg fun _ fr h k =>
  obind (pConv .i64 (Tr.get .bad q1 fr)) fun v0 =>
  obind (pAdd v0 (Tr.get .bad q6 fr)) fun v1 =>
  obind (pQuo v1 (.int .i64 (.ofNat 1024))) fun v2 =>
  forceG v2 fun v => Tr.setK .bad v q7 fr fun f7 =>
  k f7 h)
 (.seq (.reg fun _ fr h k =>
  obind (pNilck (Tr.get .bad q0 fr)) fun v0 =>
  obind (pFa 1 v0) fun v1 =>
  obind (rLd1 v1 h) fun v2 =>
  obind (pIdxS 1 v2 (Tr.get .bad q7 fr)) fun v3 =>
  obind (rLd1 v3 h) fun v4 =>
  forceG v4 fun v => Tr.setK .bad v q24 fr fun f24 =>
  k f24 h)
 (.cond 24 q24 (.reg fun _ fr h k =>
  obind (pNilck (Tr.get .bad q0 fr)) fun v0 =>
  obind (pFa 2 v0) fun v1 =>
  obind (rLd1 v1 h) fun v2 =>
  obind (pIdxS 1 v2 (Tr.get .bad q7 fr)) fun v3 =>
  obind (wSt1 v3 (.bool true) h) fun h5 =>
  k fr h5)
 .skip))))
 (.reg fun _ fr h k =>
  obind (pAdd (Tr.get .bad q6 fr) (.int .i64 (.ofNat 1))) fun v0 =>
  forceG v0 fun v => Tr.setK .bad v q6 fr fun f6 =>
  k f6 h)))))), resF []⟩
theorem g93_ok : Comp Tryz.prog Tryz.f93 3 [6, 7, 10, 24] g93 := ⟨_, [], rfl, by kernel_rfl, by decide, by kernel_rfl, by kernel_rfl, rfl, rfl⟩
/-- (*pianola/pianolaref15.Bus).timer -/
def g94 : GFunc := ⟨5, (.seq (.reg fun _ fr h k =>
  forceG (.bool false) fun v => Tr.setK .bad v q10 fr fun f10 =>
  k f10 h)
 (.seq (.reg fun _ fr h k =>
  obind (pSub (Tr.get .bad q1 fr) (.int .i64 (.ofNat 1))) fun v0 =>
  obind (pNilck (Tr.get .bad q0 fr)) fun v1 =>
  obind (pFa 3 v1) fun v2 =>
  obind (pIdxA 2 3 v2 v0) fun v3 =>
  forceG v3 fun v => Tr.setK .bad v q11 fr fun f11 =>
  k f11 h)
 (.seq (.seq (.reg fun _ fr h k =>
  forceG (Tr.get .bad q2 fr) fun v => Tr.setK .bad v q18 fr fun f18 =>
  k f18 h)
 (.block 0 (.seq (.reg fun _ fr h k =>
  obind (pEql (Tr.get .bad q18 fr) (.int .u32 (.ofNat 0))) fun v0 =>
  forceG v0 fun v => Tr.setK .bad v q19 fr fun f19 =>
  k f19 h)
 (.cond 19 q19 (.seq (.reg fun _ fr h k =>
  obind (pAnd (Tr.get .bad q3 fr) (.int .u32 (.ofNat 3))) fun v0 =>
  obind (pNilck (Tr.get .bad q11 fr)) fun v1 =>
  obind (pFa 0 v1) fun v2 =>
  obind (wSt1 v2 v0 h) fun h4 =>
  k fr h4)
 (.seq (.reg fun _ fr h k =>
  obind (pAnd (Tr.get .bad q3 fr) (.int .u32 (.ofNat 1))) fun v0 =>
  obind (pNeq v0 (.int .u32 (.ofNat 0))) fun v1 =>
  forceG v1 fun v => Tr.setK .bad v q28 fr fun f28 =>
  k f28 h)
 (.cond 28 q28 (.reg fun call fr h k =>
  obind (pNilck (Tr.get .bad q0 fr)) fun v0 =>
  obind (pFa 1 v0) fun v1 =>
  obind (pNilck (Tr.get .bad q11 fr)) fun v2 =>
  obind (pFa 1 v2) fun v3 =>
  obind (rLd1 v3 h) fun v4 =>
  obind (pConv .i64 v4) fun v5 =>
  obind (pMax v5 (.int .i64 (.ofNat 1))) fun v6 =>
  obind (pAdd (Tr.get .bad q4 fr) v6) fun v7 =>
  call q108 [v1, (Tr.get .bad q1 fr), v7] h fun _ h9 =>
  k fr h9)
 (.reg fun call fr h k =>
  obind (pNilck (Tr.get .bad q0 fr)) fun v0 =>
  obind (pFa 1 v0) fun v1 =>
  call q144 [v1, (Tr.get .bad q1 fr)] h fun _ h3 =>
  k fr h3))))
 (.seq (.reg fun _ fr h k =>
  obind (pEql (Tr.get .bad q18 fr) (.int .u32 (.ofNat 1))) fun v0 =>
  forceG v0 fun v => Tr.setK .bad v q47 fr fun f47 =>
  k f47 h)
 (.cond 47 q47 (.reg fun _ fr h k =>
  obind (pNilck (Tr.get .bad q11 fr)) fun v0 =>
  obind (pFa 1 v0) fun v1 =>
  obind (wSt1 v1 (Tr.get .bad q3 fr) h) fun h3 =>
  k fr h3)
 (.seq (.reg fun _ fr h k =>
  obind (pEql (Tr.get .bad q18 fr) (.int .u32 (.ofNat 2))) fun v0 =>
  forceG v0 fun v => Tr.setK .bad v q53 fr fun f53 =>
  k f53 h)
 (.cond 53 q53 (.seq (.reg fun _ fr h k =>
  obind (pAnd (Tr.get .bad q3 fr) (.int .u32 (.ofNat 1))) fun v0 =>
  obind (pNeq v0 (.int .u32 (.ofNat 0))) fun v1 =>
  forceG v1 fun v => Tr.setK .bad v q57 fr fun f57 =>
  k f57 h)
 (.cond 57 q57 (.reg fun _ fr h k =>
  obind (pNilck (Tr.get .bad q11 fr)) fun v0 =>
  obind (pFa 2 v0) fun v1 =>
  obind (wSt1 v1 (.int .u32 (.ofNat 0)) h) fun h3 =>
  k fr h3)
 .skip))
 .skip))))))))
 (.seq (.reg fun _ fr h k =>
  obind (pLss (Tr.get .bad q2 fr) (.int .u32 (.ofNat 3))) fun v0 =>
  forceG v0 fun v => Tr.setK .bad v q10 fr fun f10 =>
  k f10 h)
 .ret)))), resF [.t 10]⟩
theorem g94_ok : Comp Tryz.prog Tryz.f94 5 [10, 11, 18, 19, 28, 47, 53, 57] g94 := ⟨_, [.t 10], rfl, by kernel_rfl, by decide, by kernel_rfl, by kernel_rfl, rfl, rfl⟩
/-- (*pianola/pianolaref15.Bus).uart -/
def g95 : GFunc := ⟨4, (.seq (.reg fun _ fr h k =>
  forceG (.bool false) fun v => Tr.setK .bad v q8 fr fun f8 =>
  k f8 h)
 (.seq (.reg fun _ fr h k =>
  obind (pNilck (Tr.get .bad q0 fr)) fun v0 =>
  obind (pFa 9 v0) fun v1 =>
  forceG v1 fun v => Tr.setK .bad v q9 fr fun f9 =>
  k f9 h)
 (.seq (.seq (.reg fun _ fr h k =>
  forceG (Tr.get .bad q1 fr) fun v => Tr.setK .bad v q13 fr fun f13 =>
  k f13 h)
 (.block 0 (.seq (.reg fun _ fr h k =>
  obind (pEql (Tr.get .bad q13 fr) (.int .u32 (.ofNat 0))) fun v0 =>
  forceG v0 fun v => Tr.setK .bad v q14 fr fun f14 =>
  k f14 h)
 (.cond 14 q14 (.seq (.reg fun _ fr h k =>
  obind (pNilck (Tr.get .bad q9 fr)) fun v0 =>
  obind (pFa 1 v0) fun v1 =>
  obind (rLd1 v1 h) fun v2 =>
  obind (pLenS v2) fun v3 =>
  obind (pLss v3 (.int .i64 (.ofNat 16))) fun v4 =>
  forceG v4 fun v => Tr.setK .bad v q21 fr fun f21 =>
  k f21 h)
 (.cond 21 q21 (.seq (.seq (.reg fun _ fr h k =>
  obind (pNilck (Tr.get .bad q9 fr)) fun v0 =>
  obind (pFa 1 v0) fun v1 =>
  obind (rLd1 v1 h) fun v2 =>
  obind (pLenS v2) fun v3 =>
  obind (pEql v3 (.int .i64 (.ofNat 0))) fun v4 =>
  forceG v4 fun v => Tr.setK .bad v q27 fr fun f27 =>
  k f27 h)
 (.cond 27 q27 (.reg fun call fr h k =>
  obind (pNilck (Tr.get .bad q0 fr)) fun v0 =>
  obind (pFa 1 v0) fun v1 =>
  obind (pAdd (Tr.get .bad q3 fr) (.int .i64 (.ofNat 8))) fun v2 =>
  call q108 [v1, (.int .i64 (.ofNat 3)), v2] h fun _ h4 =>
  k fr h4)
 .skip))
 (.reg fun _ fr h k =>
  obind2 (nBuildS (rep [.int .u8 (.ofNat 0)] 0) 0 1 (some (.u8, 8)) [] h) fun v0 h1 =>
  obind (pNilck (Tr.get .bad q9 fr)) fun v1 =>
  obind (pFa 1 v1) fun v2 =>
  obind (rLd1 v2 h1) fun v3 =>
  obind2 (nAppend 1 1 (some (.u8, 8)) v0 v3 h1) fun v4 h5 =>
  obind (pConv .u8 (Tr.get .bad q2 fr)) fun v5 =>
  obind2 (nBuildS (rep [.int .u8 (.ofNat 0)] 1) 1 1 (some (.u8, 8)) [(0, 1, v5)] h5) fun v6 h7 =>
  obind2 (nAppend 1 1 (some (.u8, 8)) v4 v6 h7) fun v7 h8 =>
  obind (pNilck (Tr.get .bad q9 fr)) fun v8 =>
  obind (pFa 1 v8) fun v9 =>
  obind (wSt1 v9 v7 h8) fun h11 =>
  k fr h11))
 .skip))
 (.seq (.reg fun _ fr h k =>
  obind (pEql (Tr.get .bad q13 fr) (.int .u32 (.ofNat 1))) fun v0 =>
  forceG v0 fun v => Tr.setK .bad v q47 fr fun f47 =>
  k f47 h)
 (.cond 47 q47 (.seq (.reg fun _ fr h k =>
  obind (pAnd (Tr.get .bad q2 fr) (.int .u32 (.ofNat 4))) fun v0 =>
  obind (pNeq v0 (.int .u32 (.ofNat 0))) fun v1 =>
  forceG v1 fun v => Tr.setK .bad v q51 fr fun f51 =>
  k f51 h)
 (.cond 51 q51 (.reg fun _ fr h k =>
  obind (pNilck (Tr.get .bad q9 fr)) fun v0 =>
  obind (pFa 2 v0) fun v1 =>
  obind (wSt1 v1 (.bool false) h) fun h3 =>
  k fr h3)
 .skip))
 (.seq (.reg fun _ fr h k =>
  obind (pEql (Tr.get .bad q13 fr) (.int .u32 (.ofNat 2))) fun v0 =>
  forceG v0 fun v => Tr.setK .bad v q55 fr fun f55 =>
  k f55 h)
 (.cond 55 q55 (.reg fun _ fr h k =>
  obind (pAnd (Tr.get .bad q2 fr) (.int .u32 (.ofNat 3))) fun v0 =>
  obind (pNilck (Tr.get .bad q9 fr)) fun v1 =>
  obind (pFa 3 v1) fun v2 =>
  obind (wSt1 v2 v0 h) fun h4 =>
  k fr h4)
 .skip))))))))
 (.seq (.reg fun _ fr h k =>
  obind (pLss (Tr.get .bad q1 fr) (.int .u32 (.ofNat 3))) fun v0 =>
  forceG v0 fun v => Tr.setK .bad v q8 fr fun f8 =>
  k f8 h)
 .ret)))), resF [.t 8]⟩
theorem g95_ok : Comp Tryz.prog Tryz.f95 4 [8, 9, 13, 14, 21, 27, 47, 51, 55] g95 := ⟨_, [.t 8], rfl, by kernel_rfl, by decide, by kernel_rfl, by kernel_rfl, rfl, rfl⟩
/-- (*pianola/pianolaref15.Bus).dma -/
def g96 : GFunc := ⟨4, (.seq (.reg fun _ fr h k =>
  forceG (.bool false) fun v => Tr.setK .bad v q8 fr fun f8 =>
  k f8 h)
 (.seq (.reg fun _ fr h k =>
  obind (pNilck (Tr.get .bad q0 fr)) fun v0 =>
  obind (pFa 14 v0) fun v1 =>
  forceG v1 fun v => Tr.setK .bad v q9 fr fun f9 =>
  k f9 h)
 (.seq (.seq (.reg fun _ fr h k =>
  forceG (Tr.get .bad q1 fr) fun v => Tr.setK .bad v q13 fr fun f13 =>
  k f13 h)
 (.block 0 (.seq (.reg fun _ fr h k =>
  obind (pEql (Tr.get .bad q13 fr) (.int .u32 (.ofNat 0))) fun v0 =>
  forceG v0 fun v => Tr.setK .bad v q14 fr fun f14 =>
  k f14 h)
 (.cond 14 q14 (.reg fun _ fr h k =>
  obind (pNilck (Tr.get .bad q9 fr)) fun v0 =>
  obind (pFa 0 v0) fun v1 =>
  obind (wSt1 v1 (Tr.get .bad q2 fr) h) fun h3 =>
  k fr h3)
 (.seq (.reg fun _ fr h k =>
  obind (pEql (Tr.get .bad q13 fr) (.int .u32 (.ofNat 1))) fun v0 =>
  forceG v0 fun v => Tr.setK .bad v q20 fr fun f20 =>
  k f20 h)
 (.cond 20 q20 (.reg fun _ fr h k =>
  obind (pNilck (Tr.get .bad q9 fr)) fun v0 =>
  obind (pFa 1 v0) fun v1 =>
  obind (wSt1 v1 (Tr.get .bad q2 fr) h) fun h3 =>
  k fr h3)
 (.seq (.reg fun _ fr h k =>
  obind (pEql (Tr.get .bad q13 fr) (.int .u32 (.ofNat 2))) fun v0 =>
  forceG v0 fun v => Tr.setK .bad v q26 fr fun f26 =>
  k f26 h)
 (.cond 26 q26 (.reg fun _ fr h k =>
  obind (pNilck (Tr.get .bad q9 fr)) fun v0 =>
  obind (pFa 2 v0) fun v1 =>
  obind (wSt1 v1 (Tr.get .bad q2 fr) h) fun h3 =>
  k fr h3)
 (.seq (.reg fun _ fr h k =>
  obind (pEql (Tr.get .bad q13 fr) (.int .u32 (.ofNat 3))) fun v0 =>
  forceG v0 fun v => Tr.setK .bad v q32 fr fun f32 =>
  k f32 h)
 (.cond 32 q32 (.seq (.reg fun _ fr h k =>
  obind (pAnd (Tr.get .bad q2 fr) (.int .u32 (.ofNat 1))) fun v0 =>
  obind (pNeq v0 (.int .u32 (.ofNat 0))) fun v1 =>
  guardC v1 true h (fun k => k (Tr.get .bad q9 fr) h) fun v2 h3 =>
  guardC v1 true h3 (fun k => obind (pNilck v2) fun v => k v h3) fun v3 h4 =>
  guardC v1 true h4 (fun k => obind (pFa 3 v3) fun v => k v h4) fun v4 h5 =>
  guardC v1 true h5 (fun k => obind (rLd1 v4 h5) fun v => k v h5) fun v5 h6 =>
  guardC v1 true h6 (fun k => obind (pAnd v5 (.int .u32 (.ofNat 1))) fun v => k v h6) fun v6 h7 =>
  guardC v1 true h7 (fun k => obind (pEql v6 (.int .u32 (.ofNat 0))) fun v => k v h7) fun v7 h8 =>
  obind (pPick v1 v7 (.bool false)) fun v8 =>
  forceG v8 fun v => Tr.setK .bad v q44 fr fun f44 =>
  k f44 h8)
 (.cond 44 q44 (.seq (.reg fun _ fr h k =>
  obind (pNilck (Tr.get .bad q9 fr)) fun v0 =>
  obind (pFa 3 v0) fun v1 =>
  obind (rLd1 v1 h) fun v2 =>
  obind (pOr v2 (.int .u32 (.ofNat 1))) fun v3 =>
  obind (pNilck (Tr.get .bad q9 fr)) fun v4 =>
  obind (pFa 3 v4) fun v5 =>
  obind (wSt1 v5 v3 h) fun h7 =>
  k fr h7)
 (.reg fun call fr h k =>
  obind (pNilck (Tr.get .bad q0 fr)) fun v0 =>
  obind (pFa 1 v0) fun v1 =>
  obind (pNilck (Tr.get .bad q9 fr)) fun v2 =>
  obind (pFa 2 v2) fun v3 =>
  obind (rLd1 v3 h) fun v4 =>
  obind (pMin v4 (.int .u32 (.ofNat 4096))) fun v5 =>
  obind (pConv .i64 v5) fun v6 =>
  obind (pQuo v6 (.int .i64 (.ofNat 4))) fun v7 =>
  obind (pAdd (Tr.get .bad q3 fr) v7) fun v8 =>
  obind (pAdd v8 (.int .i64 (.ofNat 1))) fun v9 =>
  call q108 [v1, (.int .i64 (.ofNat 4)), v9] h fun _ h11 =>
  k fr h11))
 .skip))
 (.seq (.reg fun _ fr h k =>
  obind (pEql (Tr.get .bad q13 fr) (.int .u32 (.ofNat 4))) fun v0 =>
  forceG v0 fun v => Tr.setK .bad v q67 fr fun f67 =>
  k f67 h)
 (.cond 67 q67 (.reg fun _ fr h k =>
  obind (pNilck (Tr.get .bad q9 fr)) fun v0 =>
  obind (pFa 3 v0) fun v1 =>
  obind (rLd1 v1 h) fun v2 =>
  obind (pAnd (Tr.get .bad q2 fr) (.int .u32 (.ofNat 6))) fun v3 =>
  obind (pAndNot v2 v3) fun v4 =>
  obind (pNilck (Tr.get .bad q9 fr)) fun v5 =>
  obind (pFa 3 v5) fun v6 =>
  obind (wSt1 v6 v4 h) fun h8 =>
  k fr h8)
 .skip))))))))))))
 (.seq (.reg fun _ fr h k =>
  obind (pLss (Tr.get .bad q1 fr) (.int .u32 (.ofNat 5))) fun v0 =>
  forceG v0 fun v => Tr.setK .bad v q8 fr fun f8 =>
  k f8 h)
 .ret)))), resF [.t 8]⟩
theorem g96_ok : Comp Tryz.prog Tryz.f96 4 [8, 9, 13, 14, 20, 26, 32, 44, 67] g96 := ⟨_, [.t 8], rfl, by kernel_rfl, by decide, by kernel_rfl, by kernel_rfl, rfl, rfl⟩
/-- (*pianola/pianolaref15.Bus).disk -/
def g97 : GFunc := ⟨4, (.seq (.reg fun _ fr h k =>
  forceG (.bool false) fun v => Tr.setK .bad v q8 fr fun f8 =>
  k f8 h)
 (.seq (.reg fun _ fr h k =>
  obind (pNilck (Tr.get .bad q0 fr)) fun v0 =>
  obind (pFa 18 v0) fun v1 =>
  forceG v1 fun v => Tr.setK .bad v q9 fr fun f9 =>
  k f9 h)
 (.seq (.seq (.reg fun _ fr h k =>
  forceG (Tr.get .bad q1 fr) fun v => Tr.setK .bad v q13 fr fun f13 =>
  k f13 h)
 (.block 0 (.seq (.reg fun _ fr h k =>
  obind (pEql (Tr.get .bad q13 fr) (.int .u32 (.ofNat 0))) fun v0 =>
  forceG v0 fun v => Tr.setK .bad v q14 fr fun f14 =>
  k f14 h)
 (.cond 14 q14 (.reg fun _ fr h k =>
  obind (pNilck (Tr.get .bad q9 fr)) fun v0 =>
  obind (pFa 0 v0) fun v1 =>
  obind (wSt1 v1 (Tr.get .bad q2 fr) h) fun h3 =>
  k fr h3)
 (.seq (.reg fun _ fr h k =>
  obind (pEql (Tr.get .bad q13 fr) (.int .u32 (.ofNat 1))) fun v0 =>
  forceG v0 fun v => Tr.setK .bad v q20 fr fun f20 =>
  k f20 h)
 (.cond 20 q20 (.reg fun _ fr h k =>
  obind (pNilck (Tr.get .bad q9 fr)) fun v0 =>
  obind (pFa 1 v0) fun v1 =>
  obind (wSt1 v1 (Tr.get .bad q2 fr) h) fun h3 =>
  k fr h3)
 (.seq (.reg fun _ fr h k =>
  obind (pEql (Tr.get .bad q13 fr) (.int .u32 (.ofNat 2))) fun v0 =>
  forceG v0 fun v => Tr.setK .bad v q26 fr fun f26 =>
  k f26 h)
 (.cond 26 q26 (.seq (.reg fun _ fr h k =>
  obind (pNilck (Tr.get .bad q9 fr)) fun v0 =>
  obind (pFa 3 v0) fun v1 =>
  obind (rLd1 v1 h) fun v2 =>
  obind (pAnd v2 (.int .u32 (.ofNat 1))) fun v3 =>
  obind (pEql v3 (.int .u32 (.ofNat 0))) fun v4 =>
  forceG v4 fun v => Tr.setK .bad v q33 fr fun f33 =>
  k f33 h)
 (.cond 33 q33 (.seq (.reg fun _ fr h k =>
  obind (pNilck (Tr.get .bad q9 fr)) fun v0 =>
  obind (pFa 2 v0) fun v1 =>
  obind (wSt1 v1 (Tr.get .bad q2 fr) h) fun h3 =>
  k fr h3)
 (.seq (.reg fun _ fr h k =>
  obind (pNilck (Tr.get .bad q9 fr)) fun v0 =>
  obind (pFa 3 v0) fun v1 =>
  obind (rLd1 v1 h) fun v2 =>
  obind (pOr v2 (.int .u32 (.ofNat 1))) fun v3 =>
  obind (pNilck (Tr.get .bad q9 fr)) fun v4 =>
  obind (pFa 3 v4) fun v5 =>
  obind (wSt1 v5 v3 h) fun h7 =>
  k fr h7)
 (.reg fun call fr h k =>
  obind (pNilck (Tr.get .bad q0 fr)) fun v0 =>
  obind (pFa 1 v0) fun v1 =>
  obind (pAdd (Tr.get .bad q3 fr) (.int .i64 (.ofNat 32))) fun v2 =>
  call q108 [v1, (.int .i64 (.ofNat 5)), v2] h fun _ h4 =>
  k fr h4)))
 .skip))
 (.seq (.reg fun _ fr h k =>
  obind (pEql (Tr.get .bad q13 fr) (.int .u32 (.ofNat 3))) fun v0 =>
  forceG v0 fun v => Tr.setK .bad v q52 fr fun f52 =>
  k f52 h)
 (.cond 52 q52 (.reg fun _ fr h k =>
  obind (pNilck (Tr.get .bad q9 fr)) fun v0 =>
  obind (pFa 3 v0) fun v1 =>
  obind (rLd1 v1 h) fun v2 =>
  obind (pAnd (Tr.get .bad q2 fr) (.int .u32 (.ofNat 6))) fun v3 =>
  obind (pAndNot v2 v3) fun v4 =>
  obind (pNilck (Tr.get .bad q9 fr)) fun v5 =>
  obind (pFa 3 v5) fun v6 =>
  obind (wSt1 v6 v4 h) fun h8 =>
  k fr h8)
 .skip))))))))))
 (.seq (.reg fun _ fr h k =>
  obind (pLss (Tr.get .bad q1 fr) (.int .u32 (.ofNat 4))) fun v0 =>
  forceG v0 fun v => Tr.setK .bad v q8 fr fun f8 =>
  k f8 h)
 .ret)))), resF [.t 8]⟩
theorem g97_ok : Comp Tryz.prog Tryz.f97 4 [8, 9, 13, 14, 20, 26, 33, 52] g97 := ⟨_, [.t 8], rfl, by kernel_rfl, by decide, by kernel_rfl, by kernel_rfl, rfl, rfl⟩
/-- (*pianola/pianolaref9.Wheel).Arm -/
def g108 : GFunc := ⟨3, (.seq (.reg fun _ fr h k =>
  forceG (.bool false) fun v => Tr.setK .bad v q6 fr fun f6 =>
  k f6 h)
 (.seq (.seq (.reg fun _ fr h k =>
  obind (pLss (Tr.get .bad q1 fr) (.int .i64 (.ofNat 0))) fun v0 =>
  guardC v0 false h (fun k => k (Tr.get .bad q1 fr) h) fun v1 h2 =>
  guardC v0 false h2 (fun k => obind (pGeq v1 (.int .i64 (.ofNat 16))) fun v => k v h2) fun v2 h3 =>
  obind (pPick v0 (.bool true) v2) fun v3 =>
  guardC v3 false h3 (fun k => k (Tr.get .bad q2 fr) h3) fun v4 h5 =>
  guardC v3 false h5 (fun k => obind (pLss v4 (.int .i64 (.ofNat 0))) fun v => k v h5) fun v5 h6 =>
  obind (pPick v3 (.bool true) v5) fun v6 =>
  forceG v6 fun v => Tr.setK .bad v q17 fr fun f17 =>
  k f17 h6)
 (.cond 17 q17 (.seq (.reg fun _ fr h k =>
  forceG (.bool false) fun v => Tr.setK .bad v q6 fr fun f6 =>
  k f6 h)
 .ret)
 .skip))
 (.seq (.reg fun call fr h k =>
  call q144 [(Tr.get .bad q0 fr), (Tr.get .bad q1 fr)] h fun _ h1 =>
  k fr h1)
 (.seq (.reg fun _ fr h k =>
  forceG (.int .i64 (.ofNat 0)) fun v => Tr.setK .bad v q7 fr fun f7 =>
  k f7 h)
 (.seq (.block 0 (.loop (.seq (.seq (.reg fun _ fr h k =>
  obind (pNilck (Tr.get .bad q0 fr)) fun v0 =>
  obind (pFa 0 v0) fun v1 =>
  obind (rLd1 v1 h) fun v2 =>
  obind (pLenS v2) fun v3 =>
  obind (pLss (Tr.get .bad q7 fr) v3) fun v4 =>
  guardC v4 true h (fun k => k (Tr.get .bad q0 fr) h) fun v5 h6 =>
  guardC v4 true h6 (fun k => obind (pNilck v5) fun v => k v h6) fun v6 h7 =>
  guardC v4 true h7 (fun k => obind (pFa 0 v6) fun v => k v h7) fun v7 h8 =>
  guardC v4 true h8 (fun k => obind (rLd1 v7 h8) fun v => k v h8) fun v8 h9 =>
  guardC v4 true h9 (fun k => k (Tr.get .bad q7 fr) h9) fun v9 h10 =>
  guardC v4 true h10 (fun k => obind (pIdxS 3 v8 v9) fun v => k v h10) fun v10 h11 =>
  guardC v4 true h11 (fun k => obind (pFa 0 v10) fun v => k v h11) fun v11 h12 =>
  guardC v4 true h12 (fun k => obind (rLd1 v11 h12) fun v => k v h12) fun v12 h13 =>
  guardC v4 true h13 (fun k => k (Tr.get .bad q2 fr) h13) fun v13 h14 =>
  guardC v4 true h14 (fun k => obind (pLeq v12 v13) fun v => k v h14) fun v14 h15 =>
  obind (pPick v4 v14 (.bool false)) fun v15 =>
  forceG v15 fun v => Tr.setK .bad v q39 fr fun f39 =>
  k f39 h15)
 (.cond 39 q39 .skip
 (.exit 0)))
 (.block 1 (.reg fun _ fr h k =>
  obind (pAdd (Tr.get .bad q7 fr) (.int .i64 (.ofNat 1))) fun v0 =>
  forceG v0 fun v => Tr.setK .bad v q7 fr fun f7 =>
  k f7 h)))))
 (.seq (.reg fun _ fr h k =>
  obind2 (nBuildS (rep [.int .i64 (.ofNat 0), .int .i64 (.ofNat 0), .int .i64 (.ofNat 0)] 0) 0 3 none [] h) fun v0 h1 =>
  obind (pNilck (Tr.get .bad q0 fr)) fun v1 =>
  obind (pFa 0 v1) fun v2 =>
  obind (rLd1 v2 h1) fun v3 =>
  obind (pSlS 3 none (some (Tr.get .bad q7 fr)) none v3) fun v4 =>
  obind2 (nAppend 3 24 none v0 v4 h1) fun v5 h6 =>
  obind (pNilck (Tr.get .bad q0 fr)) fun v6 =>
  obind (pFa 1 v6) fun v7 =>
  obind (rLd1 v7 h6) fun v8 =>
  obind (pBuild [.int .i64 (.ofNat 0), .int .i64 (.ofNat 0), .int .i64 (.ofNat 0)] [(0, 1, (Tr.get .bad q2 fr)), (1, 1, (Tr.get .bad q1 fr)), (2, 1, v8)]) fun v9 =>
  obind2 (nBuildS (rep [.int .i64 (.ofNat 0), .int .i64 (.ofNat 0), .int .i64 (.ofNat 0)] 1) 1 3 none [(0, 3, v9)] h6) fun v10 h11 =>
  obind2 (nAppend 3 24 none v5 v10 h11) fun v11 h12 =>
  obind (pNilck (Tr.get .bad q0 fr)) fun v12 =>
  obind (pFa 0 v12) fun v13 =>
  obind (rLd1 v13 h12) fun v14 =>
  obind (pSlS 3 (some (Tr.get .bad q7 fr)) none none v14) fun v15 =>
  obind2 (nAppend 3 24 none v11 v15 h12) fun v16 h17 =>
  obind (pNilck (Tr.get .bad q0 fr)) fun v17 =>
  obind (pFa 0 v17) fun v18 =>
  obind (wSt1 v18 v16 h17) fun h20 =>
  chk v8 (rLd1 v7 h1) <|
  chk v14 (rLd1 v13 h1) <|
  chk v14 (rLd1 v13 h11) <|
  k fr h20)
 (.seq (.reg fun _ fr h k =>
  obind (pNilck (Tr.get .bad q0 fr)) fun v0 =>
  obind (pFa 1 v0) fun v1 =>
  obind (rLd1 v1 h) fun v2 =>
  obind (pAdd v2 (.int .i64 (.ofNat 1))) fun v3 =>
  obind (pNilck (Tr.get .bad q0 fr)) fun v4 =>
  obind (pFa 1 v4) fun v5 =>
  obind (wSt1 v5 v3 h) fun h7 =>
  k fr h7)
 (.seq (.reg fun _ fr h k =>
  forceG (.bool true) fun v => Tr.setK .bad v q6 fr fun f6 =>
  k f6 h)
 .ret)))))))), resF [.t 6]⟩
theorem g108_ok : Comp Tryz.prog Tryz.f108 3 [6, 7, 17, 39] g108 := ⟨_, [.t 6], rfl, by kernel_rfl, by decide, by kernel_rfl, by kernel_rfl, rfl, rfl⟩
/-- pianola/pianolaref3.Of -/
def g111 : GFunc := ⟨1, (.seq (.reg fun _ fr h k =>
  obind2 (nAlloc [.int .i64 (.ofNat 0), .int .i64 (.ofNat 0), .int .i64 (.ofNat 0), .int .i64 (.ofNat 0), .int .i64 (.ofNat 0), .int .u32 (.ofNat 0)] h) fun v0 h1 =>
  forceG v0 fun v => Tr.setK .bad v q2 fr fun f2 =>
  k f2 h1)
 (.seq (.reg fun call fr h k =>
  obind (pShr (Tr.get .bad q0 fr) (.int .u64 (.ofNat 26))) fun v0 =>
  obind (pConv .i64 v0) fun v1 =>
  call q150 [v1] h fun v2 h3 =>
  forceG v2 fun v => Tr.setK .bad v q3 fr fun f3 =>
  k f3 h3)
 (.seq (.seq (.reg fun _ fr h k =>
  forceG (.int .i64 (.ofNat 0)) fun v => Tr.setK .bad v q4 fr fun f4 =>
  k f4 h)
 (.block 0 (.loop (.seq (.seq (.reg fun _ fr h k =>
  obind (pLenS (Tr.get .bad q3 fr)) fun v0 =>
  obind (pLss (Tr.get .bad q4 fr) v0) fun v1 =>
  forceG v1 fun v => Tr.setK .bad v q14 fr fun f14 =>
  k f14 h)
 (.cond 14 q14 .skip
 (.exit 0)))
 (.seq (.block 1 (.seq (.reg fun _ fr h k =>
  obind (pIdxS 4 (Tr.get .bad q3 fr) (Tr.get .bad q4 fr)) fun v0 =>
  obind (rLdN 4 v0 h) fun v1 =>
  obind2 (nAlloc [.int .i64 (.ofNat 0), .int .i64 (.ofNat 0), .int .i64 (.ofNat 0), .str 0 0] h) fun v2 h3 =>
  obind (wStN 4 v2 v1 h3) fun h4 =>
  forceG v2 fun v => Tr.setK .bad v q5 fr fun f5 =>
  k f5 h4)
 (.seq (.seq (.reg fun call fr h k =>
  obind (pFa 0 (Tr.get .bad q5 fr)) fun v0 =>
  obind (rLd1 v0 h) fun v1 =>
  obind (pShr (Tr.get .bad q0 fr) (.int .u64 (.ofNat 26))) fun v2 =>
  obind (pConv .i64 v2) fun v3 =>
  obind (pNeq v1 v3) fun v4 =>
  guardC v4 false h (fun k => obind (pFa 1 (Tr.get .bad q5 fr)) fun v => k v h) fun v5 h6 =>
  guardC v4 false h6 (fun k => obind (rLd1 v5 h6) fun v => k v h6) fun v6 h7 =>
  guardC v4 false h7 (fun k => k (Tr.get .bad q0 fr) h7) fun v7 h8 =>
  guardC v4 false h8 (fun k => call q151 [v7] h8 k) fun v8 h9 =>
  guardC v4 false h9 (fun k => obind (pNeq v6 v8) fun v => k v h9) fun v9 h10 =>
  obind (pPick v4 (.bool true) v9) fun v10 =>
  chk v6 (rLd1 v5 h9) <|
  forceG v10 fun v => Tr.setK .bad v q33 fr fun f33 =>
  k f33 h10)
 (.cond 33 q33 (.exit 1)
 .skip))
 (.seq (.reg fun _ fr h k =>
  obind (pFa 2 (Tr.get .bad q5 fr)) fun v0 =>
  obind (rLd1 v0 h) fun v1 =>
  obind (pBuild [.int .i64 (.ofNat 0), .int .i64 (.ofNat 0), .int .i64 (.ofNat 0), .int .i64 (.ofNat 0), .int .i64 (.ofNat 0), .int .u32 (.ofNat 0)] [(0, 1, v1)]) fun v2 =>
  obind2 (nAlloc [.int .i64 (.ofNat 0), .int .i64 (.ofNat 0), .int .i64 (.ofNat 0), .int .i64 (.ofNat 0), .int .i64 (.ofNat 0), .int .u32 (.ofNat 0)] h) fun v3 h4 =>
  obind (wStN 6 v3 v2 h4) fun h5 =>
  forceG v3 fun v => Tr.setK .bad v q6 fr fun f6 =>
  k f6 h5)
 (.seq (.seq (.reg fun call fr h k =>
  obind (pFa 3 (Tr.get .bad q5 fr)) fun v0 =>
  obind (rLd1 v0 h) fun v1 =>
  call q152 [v1, (.int .u8 (.ofNat 115))] h fun v2 h3 =>
  forceG v2 fun v => Tr.setK .bad v q39 fr fun f39 =>
  k f39 h3)
 (.cond 39 q39 (.reg fun _ fr h k =>
  obind (pShr (Tr.get .bad q0 fr) (.int .u64 (.ofNat 21))) fun v0 =>
  obind (pAnd v0 (.int .u32 (.ofNat 31))) fun v1 =>
  obind (pConv .i64 v1) fun v2 =>
  obind (pFa 1 (Tr.get .bad q6 fr)) fun v3 =>
  obind (wSt1 v3 v2 h) fun h5 =>
  k fr h5)
 .skip))
 (.seq (.seq (.reg fun call fr h k =>
  obind (pFa 3 (Tr.get .bad q5 fr)) fun v0 =>
  obind (rLd1 v0 h) fun v1 =>
  call q152 [v1, (.int .u8 (.ofNat 116))] h fun v2 h3 =>
  forceG v2 fun v => Tr.setK .bad v q47 fr fun f47 =>
  k f47 h3)
 (.cond 47 q47 (.reg fun _ fr h k =>
  obind (pShr (Tr.get .bad q0 fr) (.int .u64 (.ofNat 16))) fun v0 =>
  obind (pAnd v0 (.int .u32 (.ofNat 31))) fun v1 =>
  obind (pConv .i64 v1) fun v2 =>
  obind (pFa 2 (Tr.get .bad q6 fr)) fun v3 =>
  obind (wSt1 v3 v2 h) fun h5 =>
  k fr h5)
 .skip))
 (.seq (.seq (.reg fun call fr h k =>
  obind (pFa 3 (Tr.get .bad q5 fr)) fun v0 =>
  obind (rLd1 v0 h) fun v1 =>
  call q152 [v1, (.int .u8 (.ofNat 100))] h fun v2 h3 =>
  forceG v2 fun v => Tr.setK .bad v q55 fr fun f55 =>
  k f55 h3)
 (.cond 55 q55 (.reg fun _ fr h k =>
  obind (pShr (Tr.get .bad q0 fr) (.int .u64 (.ofNat 11))) fun v0 =>
  obind (pAnd v0 (.int .u32 (.ofNat 31))) fun v1 =>
  obind (pConv .i64 v1) fun v2 =>
  obind (pFa 3 (Tr.get .bad q6 fr)) fun v3 =>
  obind (wSt1 v3 v2 h) fun h5 =>
  k fr h5)
 .skip))
 (.seq (.seq (.reg fun call fr h k =>
  obind (pFa 3 (Tr.get .bad q5 fr)) fun v0 =>
  obind (rLd1 v0 h) fun v1 =>
  call q152 [v1, (.int .u8 (.ofNat 104))] h fun v2 h3 =>
  forceG v2 fun v => Tr.setK .bad v q63 fr fun f63 =>
  k f63 h3)
 (.cond 63 q63 (.reg fun _ fr h k =>
  obind (pShr (Tr.get .bad q0 fr) (.int .u64 (.ofNat 6))) fun v0 =>
  obind (pAnd v0 (.int .u32 (.ofNat 31))) fun v1 =>
  obind (pConv .i64 v1) fun v2 =>
  obind (pFa 4 (Tr.get .bad q6 fr)) fun v3 =>
  obind (wSt1 v3 v2 h) fun h5 =>
  k fr h5)
 .skip))
 (.seq (.seq (.reg fun call fr h k =>
  obind (pFa 3 (Tr.get .bad q5 fr)) fun v0 =>
  obind (rLd1 v0 h) fun v1 =>
  call q152 [v1, (.int .u8 (.ofNat 105))] h fun v2 h3 =>
  forceG v2 fun v => Tr.setK .bad v q71 fr fun f71 =>
  k f71 h3)
 (.cond 71 q71 (.reg fun _ fr h k =>
  obind (pAnd (Tr.get .bad q0 fr) (.int .u32 (.ofNat 65535))) fun v0 =>
  obind (pFa 5 (Tr.get .bad q6 fr)) fun v1 =>
  obind (wSt1 v1 v0 h) fun h3 =>
  k fr h3)
 .skip))
 (.seq (.seq (.reg fun call fr h k =>
  obind (pFa 3 (Tr.get .bad q5 fr)) fun v0 =>
  obind (rLd1 v0 h) fun v1 =>
  call q152 [v1, (.int .u8 (.ofNat 106))] h fun v2 h3 =>
  forceG v2 fun v => Tr.setK .bad v q77 fr fun f77 =>
  k f77 h3)
 (.cond 77 q77 (.reg fun _ fr h k =>
  obind (pAnd (Tr.get .bad q0 fr) (.int .u32 (.ofNat 67108863))) fun v0 =>
  obind (pFa 5 (Tr.get .bad q6 fr)) fun v1 =>
  obind (wSt1 v1 v0 h) fun h3 =>
  k fr h3)
 .skip))
 (.seq (.reg fun _ fr h k =>
  obind (rLdN 6 (Tr.get .bad q6 fr) h) fun v0 =>
  obind (wStN 6 (Tr.get .bad q2 fr) v0 h) fun h2 =>
  k fr h2)
 .ret)))))))))))
 (.reg fun _ fr h k =>
  obind (pAdd (Tr.get .bad q4 fr) (.int .i64 (.ofNat 1))) fun v0 =>
  forceG v0 fun v => Tr.setK .bad v q4 fr fun f4 =>
  k f4 h))))))
 (.seq (.reg fun _ fr h k =>
  obind (pBuild [.int .i64 (.ofNat 0), .int .i64 (.ofNat 0), .int .i64 (.ofNat 0), .int .i64 (.ofNat 0), .int .i64 (.ofNat 0), .int .u32 (.ofNat 0)] []) fun v0 =>
  obind (wStN 6 (Tr.get .bad q2 fr) v0 h) fun h2 =>
  k fr h2)
 .ret)))), resF [.cN 2 6]⟩
theorem g111_ok : Comp Tryz.prog Tryz.f111 1 [2, 3, 4, 5, 6, 14, 33, 39, 47, 55, 63, 71, 77] g111 := ⟨_, [.cN 2 6], rfl, by kernel_rfl, by decide, by kernel_rfl, by kernel_rfl, rfl, rfl⟩
/-- pianola/pianolaref3.Class -/
def g112 : GFunc := ⟨1, (.seq (.reg fun _ fr h k =>
  obind2 (nBox (Tr.get .bad q0 fr) h) fun v0 h1 =>
  forceG v0 fun v => Tr.setK .bad v q1 fr fun f1 =>
  forceG (.int .i64 (.ofNat 0)) fun v => Tr.setK .bad v q2 f1 fun f2 =>
  k f2 h1)
 (.seq (.reg fun _ fr h k =>
  obind (pFa 0 (Tr.get .bad q1 fr)) fun v0 =>
  obind (rLd1 v0 h) fun v1 =>
  forceG v1 fun v => Tr.setK .bad v q3 fr fun f3 =>
  k f3 h)
 (.seq (.block 0 (.seq (.reg fun _ fr h k =>
  obind (pLeq (Tr.get .bad q3 fr) (.int .i64 (.ofNat 0))) fun v0 =>
  guardC v0 false h (fun k => k (Tr.get .bad q3 fr) h) fun v1 h2 =>
  guardC v0 false h2 (fun k => obind (pGeq v1 (.int .i64 (.ofNat 78))) fun v => k v h2) fun v2 h3 =>
  obind (pPick v0 (.bool true) v2) fun v3 =>
  guardC v3 false h3 (fun k => k (Tr.get .bad q3 fr) h3) fun v4 h5 =>
  guardC v3 false h5 (fun k => obind (pGeq v4 (.int .i64 (.ofNat 54))) fun v => k v h5) fun v5 h6 =>
  guardC v3 false h6 (fun k => k v5 h6) fun v6 h7 =>
  guardC v6 true h7 (fun k => k (Tr.get .bad q3 fr) h7) fun v7 h8 =>
  guardC v6 true h8 (fun k => obind (pLeq v7 (.int .i64 (.ofNat 62))) fun v => k v h8) fun v8 h9 =>
  guardC v3 false h9 (fun k => obind (pPick v6 v8 (.bool false)) fun v => k v h9) fun v9 h10 =>
  obind (pPick v3 (.bool true) v9) fun v10 =>
  guardC v10 false h10 (fun k => k (Tr.get .bad q3 fr) h10) fun v11 h12 =>
  guardC v10 false h12 (fun k => obind (pEql v11 (.int .i64 (.ofNat 11))) fun v => k v h12) fun v12 h13 =>
  obind (pPick v10 (.bool true) v12) fun v13 =>
  guardC v13 false h13 (fun k => k (Tr.get .bad q3 fr) h13) fun v14 h15 =>
  guardC v13 false h15 (fun k => obind (pEql v14 (.int .i64 (.ofNat 12))) fun v => k v h15) fun v15 h16 =>
  obind (pPick v13 (.bool true) v15) fun v16 =>
  forceG v16 fun v => Tr.setK .bad v q6 fr fun f6 =>
  k f6 h16)
 (.cond 6 q6 (.seq (.reg fun _ fr h k =>
  forceG (.int .i64 (.ofNat 6)) fun v => Tr.setK .bad v q2 fr fun f2 =>
  k f2 h)
 .ret)
 (.seq (.reg fun _ fr h k =>
  obind (pEql (Tr.get .bad q3 fr) (.int .i64 (.ofNat 7))) fun v0 =>
  guardC v0 false h (fun k => k (Tr.get .bad q3 fr) h) fun v1 h2 =>
  guardC v0 false h2 (fun k => obind (pEql v1 (.int .i64 (.ofNat 8))) fun v => k v h2) fun v2 h3 =>
  obind (pPick v0 (.bool true) v2) fun v3 =>
  guardC v3 false h3 (fun k => k (Tr.get .bad q3 fr) h3) fun v4 h5 =>
  guardC v3 false h5 (fun k => obind (pGeq v4 (.int .i64 (.ofNat 36))) fun v => k v h5) fun v5 h6 =>
  guardC v3 false h6 (fun k => k v5 h6) fun v6 h7 =>
  guardC v6 true h7 (fun k => k (Tr.get .bad q3 fr) h7) fun v7 h8 =>
  guardC v6 true h8 (fun k => obind (pLeq v7 (.int .i64 (.ofNat 45))) fun v => k v h8) fun v8 h9 =>
  guardC v3 false h9 (fun k => obind (pPick v6 v8 (.bool false)) fun v => k v h9) fun v9 h10 =>
  obind (pPick v3 (.bool true) v9) fun v10 =>
  forceG v10 fun v => Tr.setK .bad v q29 fr fun f29 =>
  k f29 h10)
 (.cond 29 q29 (.seq (.reg fun _ fr h k =>
  forceG (.int .i64 (.ofNat 3)) fun v => Tr.setK .bad v q2 fr fun f2 =>
  k f2 h)
 .ret)
 (.seq (.reg fun _ fr h k =>
  obind (pGeq (Tr.get .bad q3 fr) (.int .i64 (.ofNat 66))) fun v0 =>
  guardC v0 true h (fun k => k (Tr.get .bad q3 fr) h) fun v1 h2 =>
  guardC v0 true h2 (fun k => obind (pLeq v1 (.int .i64 (.ofNat 70))) fun v => k v h2) fun v2 h3 =>
  obind (pPick v0 v2 (.bool false)) fun v3 =>
  guardC v3 false h3 (fun k => k (Tr.get .bad q3 fr) h3) fun v4 h5 =>
  guardC v3 false h5 (fun k => obind (pEql v4 (.int .i64 (.ofNat 74))) fun v => k v h5) fun v5 h6 =>
  obind (pPick v3 (.bool true) v5) fun v6 =>
  forceG v6 fun v => Tr.setK .bad v q44 fr fun f44 =>
  k f44 h6)
 (.cond 44 q44 (.seq (.reg fun _ fr h k =>
  forceG (.int .i64 (.ofNat 4)) fun v => Tr.setK .bad v q2 fr fun f2 =>
  k f2 h)
 .ret)
 (.seq (.reg fun _ fr h k =>
  obind (pGeq (Tr.get .bad q3 fr) (.int .i64 (.ofNat 71))) fun v0 =>
  guardC v0 true h (fun k => k (Tr.get .bad q3 fr) h) fun v1 h2 =>
  guardC v0 true h2 (fun k => obind (pLeq v1 (.int .i64 (.ofNat 73))) fun v => k v h2) fun v2 h3 =>
  obind (pPick v0 v2 (.bool false)) fun v3 =>
  guardC v3 false h3 (fun k => k (Tr.get .bad q3 fr) h3) fun v4 h5 =>
  guardC v3 false h5 (fun k => obind (pEql v4 (.int .i64 (.ofNat 75))) fun v => k v h5) fun v5 h6 =>
  obind (pPick v3 (.bool true) v5) fun v6 =>
  forceG v6 fun v => Tr.setK .bad v q55 fr fun f55 =>
  k f55 h6)
 (.cond 55 q55 (.seq (.reg fun _ fr h k =>
  forceG (.int .i64 (.ofNat 5)) fun v => Tr.setK .bad v q2 fr fun f2 =>
  k f2 h)
 .ret)
 (.seq (.reg fun _ fr h k =>
  obind (pEql (Tr.get .bad q3 fr) (.int .i64 (.ofNat 22))) fun v0 =>
  guardC v0 false h (fun k => k (Tr.get .bad q3 fr) h) fun v1 h2 =>
  guardC v0 false h2 (fun k => obind (pEql v1 (.int .i64 (.ofNat 24))) fun v => k v h2) fun v2 h3 =>
  obind (pPick v0 (.bool true) v2) fun v3 =>
  guardC v3 false h3 (fun k => k (Tr.get .bad q3 fr) h3) fun v4 h5 =>
  guardC v3 false h5 (fun k => obind (pEql v4 (.int .i64 (.ofNat 46))) fun v => k v h5) fun v5 h6 =>
  obind (pPick v3 (.bool true) v5) fun v6 =>
  guardC v6 false h6 (fun k => k (Tr.get .bad q3 fr) h6) fun v7 h8 =>
  guardC v6 false h8 (fun k => obind (pGeq v7 (.int .i64 (.ofNat 32))) fun v => k v h8) fun v8 h9 =>
  guardC v6 false h9 (fun k => k v8 h9) fun v9 h10 =>
  guardC v9 true h10 (fun k => k (Tr.get .bad q3 fr) h10) fun v10 h11 =>
  guardC v9 true h11 (fun k => obind (pLeq v10 (.int .i64 (.ofNat 35))) fun v => k v h11) fun v11 h12 =>
  guardC v6 false h12 (fun k => obind (pPick v9 v11 (.bool false)) fun v => k v h12) fun v12 h13 =>
  obind (pPick v6 (.bool true) v12) fun v13 =>
  forceG v13 fun v => Tr.setK .bad v q66 fr fun f66 =>
  k f66 h13)
 (.cond 66 q66 (.seq (.reg fun _ fr h k =>
  forceG (.int .i64 (.ofNat 2)) fun v => Tr.setK .bad v q2 fr fun f2 =>
  k f2 h)
 .ret)
 .skip)))))))))))
 (.seq (.reg fun _ fr h k =>
  forceG (.int .i64 (.ofNat 1)) fun v => Tr.setK .bad v q2 fr fun f2 =>
  k f2 h)
 .ret)))), resF [.t 2]⟩
theorem g112_ok : Comp Tryz.prog Tryz.f112 1 [1, 2, 3, 6, 29, 44, 55, 66] g112 := ⟨_, [.t 2], rfl, by kernel_rfl, by decide, by kernel_rfl, by kernel_rfl, rfl, rfl⟩
/-- pianola/pianolaref6.Fresh -/
def g113 : GFunc := ⟨0, (.seq (.reg fun _ fr h k =>
  obind2 (nAlloc [.int .u32 (.ofNat 0), .int .u32 (.ofNat 0), .int .u32 (.ofNat 0), .int .u32 (.ofNat 0), .int .u32 (.ofNat 0), .int .u32 (.ofNat 0), .int .u32 (.ofNat 0), .int .u32 (.ofNat 0), .int .u32 (.ofNat 0), .int .u32 (.ofNat 0), .int .u32 (.ofNat 0), .int .u32 (.ofNat 0), .int .u32 (.ofNat 0), .int .u32 (.ofNat 0), .int .u32 (.ofNat 0), .int .u32 (.ofNat 0), .int .u32 (.ofNat 0), .int .u32 (.ofNat 0), .int .u32 (.ofNat 0), .int .u32 (.ofNat 0), .int .u32 (.ofNat 0), .int .u32 (.ofNat 0), .int .u32 (.ofNat 0), .int .u32 (.ofNat 0), .int .u32 (.ofNat 0), .int .u32 (.ofNat 0), .int .u32 (.ofNat 0), .int .u32 (.ofNat 0), .int .u32 (.ofNat 0), .int .u32 (.ofNat 0), .int .u32 (.ofNat 0), .int .u32 (.ofNat 0), .int .u32 (.ofNat 0), .int .u32 (.ofNat 0), .int .u32 (.ofNat 0), .int .u32 (.ofNat 0), .bool false, .bool false, .int .u32 (.ofNat 0), .int .u32 (.ofNat 0), .int .u32 (.ofNat 0), .int .u32 (.ofNat 0), .int .u32 (.ofNat 0), .int .u32 (.ofNat 0), .int .u32 (.ofNat 0), .int .u32 (.ofNat 0), .int .u32 (.ofNat 0), .int .u32 (.ofNat 0), .int .u32 (.ofNat 0), .int .u32 (.ofNat 0), .int .u32 (.ofNat 0), .int .u32 (.ofNat 0), .int .u32 (.ofNat 0), .int .u32 (.ofNat 0), .int .u32 (.ofNat 0), .int .u32 (.ofNat 0), .int .u32 (.ofNat 0), .int .u32 (.ofNat 0), .int .u32 (.ofNat 0), .int .u32 (.ofNat 0), .int .u32 (.ofNat 0), .int .u32 (.ofNat 0), .int .u32 (.ofNat 0), .int .u32 (.ofNat 0), .int .u32 (.ofNat 0), .int .u32 (.ofNat 0), .int .u32 (.ofNat 0), .int .u32 (.ofNat 0), .int .u32 (.ofNat 0), .int .u32 (.ofNat 0), .int .u32 (.ofNat 0), .bool false, .int .i64 (.ofNat 0)] h) fun v0 h1 =>
  forceG v0 fun v => Tr.setK .bad v q0 fr fun f0 =>
  k f0 h1)
 (.seq (.reg fun _ fr h k =>
  obind (pBuild [.int .u32 (.ofNat 0), .int .u32 (.ofNat 0), .int .u32 (.ofNat 0), .int .u32 (.ofNat 0), .int .u32 (.ofNat 0), .int .u32 (.ofNat 0), .int .u32 (.ofNat 0), .int .u32 (.ofNat 0), .int .u32 (.ofNat 0), .int .u32 (.ofNat 0), .int .u32 (.ofNat 0), .int .u32 (.ofNat 0), .int .u32 (.ofNat 0), .int .u32 (.ofNat 0), .int .u32 (.ofNat 0), .int .u32 (.ofNat 0), .int .u32 (.ofNat 0), .int .u32 (.ofNat 0), .int .u32 (.ofNat 0), .int .u32 (.ofNat 0), .int .u32 (.ofNat 0), .int .u32 (.ofNat 0), .int .u32 (.ofNat 0), .int .u32 (.ofNat 0), .int .u32 (.ofNat 0), .int .u32 (.ofNat 0), .int .u32 (.ofNat 0), .int .u32 (.ofNat 0), .int .u32 (.ofNat 0), .int .u32 (.ofNat 0), .int .u32 (.ofNat 0), .int .u32 (.ofNat 0), .int .u32 (.ofNat 0), .int .u32 (.ofNat 0), .int .u32 (.ofNat 0), .int .u32 (.ofNat 0), .bool false, .bool false, .int .u32 (.ofNat 0), .int .u32 (.ofNat 0), .int .u32 (.ofNat 0), .int .u32 (.ofNat 0), .int .u32 (.ofNat 0), .int .u32 (.ofNat 0), .int .u32 (.ofNat 0), .int .u32 (.ofNat 0), .int .u32 (.ofNat 0), .int .u32 (.ofNat 0), .int .u32 (.ofNat 0), .int .u32 (.ofNat 0), .int .u32 (.ofNat 0), .int .u32 (.ofNat 0), .int .u32 (.ofNat 0), .int .u32 (.ofNat 0), .int .u32 (.ofNat 0), .int .u32 (.ofNat 0), .int .u32 (.ofNat 0), .int .u32 (.ofNat 0), .int .u32 (.ofNat 0), .int .u32 (.ofNat 0), .int .u32 (.ofNat 0), .int .u32 (.ofNat 0), .int .u32 (.ofNat 0), .int .u32 (.ofNat 0), .int .u32 (.ofNat 0), .int .u32 (.ofNat 0), .int .u32 (.ofNat 0), .int .u32 (.ofNat 0), .int .u32 (.ofNat 0), .int .u32 (.ofNat 0), .int .u32 (.ofNat 0), .bool false, .int .i64 (.ofNat 0)] [(34, 1, (.int .u32 (.ofNat 2147484672))), (35, 1, (.int .u32 (.ofNat 2147484676)))]) fun v0 =>
  obind2 (nAlloc [.int .u32 (.ofNat 0), .int .u32 (.ofNat 0), .int .u32 (.ofNat 0), .int .u32 (.ofNat 0), .int .u32 (.ofNat 0), .int .u32 (.ofNat 0), .int .u32 (.ofNat 0), .int .u32 (.ofNat 0), .int .u32 (.ofNat 0), .int .u32 (.ofNat 0), .int .u32 (.ofNat 0), .int .u32 (.ofNat 0), .int .u32 (.ofNat 0), .int .u32 (.ofNat 0), .int .u32 (.ofNat 0), .int .u32 (.ofNat 0), .int .u32 (.ofNat 0), .int .u32 (.ofNat 0), .int .u32 (.ofNat 0), .int .u32 (.ofNat 0), .int .u32 (.ofNat 0), .int .u32 (.ofNat 0), .int .u32 (.ofNat 0), .int .u32 (.ofNat 0), .int .u32 (.ofNat 0), .int .u32 (.ofNat 0), .int .u32 (.ofNat 0), .int .u32 (.ofNat 0), .int .u32 (.ofNat 0), .int .u32 (.ofNat 0), .int .u32 (.ofNat 0), .int .u32 (.ofNat 0), .int .u32 (.ofNat 0), .int .u32 (.ofNat 0), .int .u32 (.ofNat 0), .int .u32 (.ofNat 0), .bool false, .bool false, .int .u32 (.ofNat 0), .int .u32 (.ofNat 0), .int .u32 (.ofNat 0), .int .u32 (.ofNat 0), .int .u32 (.ofNat 0), .int .u32 (.ofNat 0), .int .u32 (.ofNat 0), .int .u32 (.ofNat 0), .int .u32 (.ofNat 0), .int .u32 (.ofNat 0), .int .u32 (.ofNat 0), .int .u32 (.ofNat 0), .int .u32 (.ofNat 0), .int .u32 (.ofNat 0), .int .u32 (.ofNat 0), .int .u32 (.ofNat 0), .int .u32 (.ofNat 0), .int .u32 (.ofNat 0), .int .u32 (.ofNat 0), .int .u32 (.ofNat 0), .int .u32 (.ofNat 0), .int .u32 (.ofNat 0), .int .u32 (.ofNat 0), .int .u32 (.ofNat 0), .int .u32 (.ofNat 0), .int .u32 (.ofNat 0), .int .u32 (.ofNat 0), .int .u32 (.ofNat 0), .int .u32 (.ofNat 0), .int .u32 (.ofNat 0), .int .u32 (.ofNat 0), .int .u32 (.ofNat 0), .int .u32 (.ofNat 0), .bool false, .int .i64 (.ofNat 0)] h) fun v1 h2 =>
  obind (wStN 73 v1 v0 h2) fun h3 =>
  forceG v1 fun v => Tr.setK .bad v q1 fr fun f1 =>
  k f1 h3)
 (.seq (.reg fun _ fr h k =>
  obind (pFa 39 (Tr.get .bad q1 fr)) fun v0 =>
  obind (pIdxA 16 1 v0 (.int .i64 (.ofNat 15))) fun v1 =>
  obind (wSt1 v1 (.int .u32 (.ofNat 98304)) h) fun h3 =>
  k fr h3)
 (.seq (.reg fun _ fr h k =>
  obind (rLdN 73 (Tr.get .bad q1 fr) h) fun v0 =>
  obind (wStN 73 (Tr.get .bad q0 fr) v0 h) fun h2 =>
  k fr h2)
 .ret)))), resF [.cN 0 73]⟩
theorem g113_ok : Comp Tryz.prog Tryz.f113 0 [0, 1] g113 := ⟨_, [.cN 0 73], rfl, by kernel_rfl, by decide, by kernel_rfl, by kernel_rfl, rfl, rfl⟩
/-- pianola/pianolaref18.Right -/
def g114 : GFunc := ⟨1, (.seq (.reg fun _ fr h k =>
  obind2 (nBox (Tr.get .bad q0 fr) h) fun v0 h1 =>
  forceG v0 fun v => Tr.setK .bad v q1 fr fun f1 =>
  forceG (.bool false) fun v => Tr.setK .bad v q2 f1 fun f2 =>
  k f2 h1)
 (.seq (.reg fun _ fr h k =>
  obind (pFa 0 (Tr.get .bad q1 fr)) fun v0 =>
  obind (rLd1 v0 h) fun v1 =>
  obind (pGeq v1 (.int .i64 (.ofNat 0))) fun v2 =>
  guardC v2 true h (fun k => obind (pFa 0 (Tr.get .bad q1 fr)) fun v => k v h) fun v3 h4 =>
  guardC v2 true h4 (fun k => obind (rLd1 v3 h4) fun v => k v h4) fun v4 h5 =>
  guardC v2 true h5 (fun k => obind (pLeq v4 (.int .i64 (.ofNat 22))) fun v => k v h5) fun v5 h6 =>
  obind (pPick v2 v5 (.bool false)) fun v6 =>
  guardC v6 true h6 (fun k => obind (pFa 1 (Tr.get .bad q1 fr)) fun v => k v h6) fun v7 h8 =>
  guardC v6 true h8 (fun k => obind (rLd1 v7 h8) fun v => k v h8) fun v8 h9 =>
  guardC v6 true h9 (fun k => obind (pGeq v8 (.int .i64 (.ofNat 0))) fun v => k v h9) fun v9 h10 =>
  obind (pPick v6 v9 (.bool false)) fun v10 =>
  guardC v10 true h10 (fun k => obind (pFa 1 (Tr.get .bad q1 fr)) fun v => k v h10) fun v11 h12 =>
  guardC v10 true h12 (fun k => obind (rLd1 v11 h12) fun v => k v h12) fun v12 h13 =>
  guardC v10 true h13 (fun k => obind (pLss v12 (.int .i64 (.ofNat 40))) fun v => k v h13) fun v13 h14 =>
  obind (pPick v10 v13 (.bool false)) fun v14 =>
  guardC v14 true h14 (fun k => obind (pFa 2 (Tr.get .bad q1 fr)) fun v => k v h14) fun v15 h16 =>
  guardC v14 true h16 (fun k => obind (rLd1 v15 h16) fun v => k v h16) fun v16 h17 =>
  guardC v14 true h17 (fun k => obind (pGeq v16 (.int .i64 (.ofNat 0))) fun v => k v h17) fun v17 h18 =>
  obind (pPick v14 v17 (.bool false)) fun v18 =>
  guardC v18 true h18 (fun k => obind (pFa 2 (Tr.get .bad q1 fr)) fun v => k v h18) fun v19 h20 =>
  guardC v18 true h20 (fun k => obind (rLd1 v19 h20) fun v => k v h20) fun v20 h21 =>
  guardC v18 true h21 (fun k => obind (pLss v20 (.int .i64 (.ofNat 40))) fun v => k v h21) fun v21 h22 =>
  obind (pPick v18 v21 (.bool false)) fun v22 =>
  guardC v22 true h22 (fun k => obind (pFa 3 (Tr.get .bad q1 fr)) fun v => k v h22) fun v23 h24 =>
  guardC v22 true h24 (fun k => obind (rLd1 v23 h24) fun v => k v h24) fun v24 h25 =>
  guardC v22 true h25 (fun k => obind (pGeq v24 (.int .i64 (.ofNat 0))) fun v => k v h25) fun v25 h26 =>
  obind (pPick v22 v25 (.bool false)) fun v26 =>
  guardC v26 true h26 (fun k => obind (pFa 3 (Tr.get .bad q1 fr)) fun v => k v h26) fun v27 h28 =>
  guardC v26 true h28 (fun k => obind (rLd1 v27 h28) fun v => k v h28) fun v28 h29 =>
  guardC v26 true h29 (fun k => obind (pLss v28 (.int .i64 (.ofNat 40))) fun v => k v h29) fun v29 h30 =>
  obind (pPick v26 v29 (.bool false)) fun v30 =>
  forceG v30 fun v => Tr.setK .bad v q2 fr fun f2 =>
  k f2 h30)
 .ret)), resF [.t 2]⟩
theorem g114_ok : Comp Tryz.prog Tryz.f114 1 [1, 2] g114 := ⟨_, [.t 2], rfl, by kernel_rfl, by decide, by kernel_rfl, by kernel_rfl, rfl, rfl⟩
/-- pianola/pianolaref18.One -/
def g115 : GFunc := ⟨2, (.seq (.reg fun _ fr h k =>
  obind2 (nBox (Tr.get .bad q1 fr) h) fun v0 h1 =>
  forceG v0 fun v => Tr.setK .bad v q3 fr fun f3 =>
  k f3 h1)
 (.seq (.reg fun _ fr h k =>
  obind (pFa 2 (Tr.get .bad q3 fr)) fun v0 =>
  obind (rLd1 v0 h) fun v1 =>
  obind (pIdxS 1 (Tr.get .bad q0 fr) v1) fun v2 =>
  obind (rLd1 v2 h) fun v3 =>
  obind (pFa 3 (Tr.get .bad q3 fr)) fun v4 =>
  obind (rLd1 v4 h) fun v5 =>
  obind (pIdxS 1 (Tr.get .bad q0 fr) v5) fun v6 =>
  obind (rLd1 v6 h) fun v7 =>
  forceG v3 fun v => Tr.setK .bad v q4 fr fun f4 =>
  forceG v7 fun v => Tr.setK .bad v q5 f4 fun f5 =>
  k f5 h)
 (.seq (.reg fun _ fr h k =>
  forceG (.int .u32 (.ofNat 0)) fun v => Tr.setK .bad v q6 fr fun f6 =>
  k f6 h)
 (.seq (.seq (.reg fun _ fr h k =>
  obind (pFa 0 (Tr.get .bad q3 fr)) fun v0 =>
  obind (rLd1 v0 h) fun v1 =>
  forceG v1 fun v => Tr.setK .bad v q18 fr fun f18 =>
  k f18 h)
 (.block 0 (.seq (.reg fun _ fr h k =>
  obind (pEql (Tr.get .bad q18 fr) (.int .i64 (.ofNat 0))) fun v0 =>
  forceG v0 fun v => Tr.setK .bad v q19 fr fun f19 =>
  k f19 h)
 (.cond 19 q19 .ret
 (.seq (.reg fun _ fr h k =>
  obind (pEql (Tr.get .bad q18 fr) (.int .i64 (.ofNat 1))) fun v0 =>
  forceG v0 fun v => Tr.setK .bad v q21 fr fun f21 =>
  k f21 h)
 (.cond 21 q21 (.reg fun _ fr h k =>
  obind (pFa 4 (Tr.get .bad q3 fr)) fun v0 =>
  obind (rLd1 v0 h) fun v1 =>
  forceG v1 fun v => Tr.setK .bad v q6 fr fun f6 =>
  k f6 h)
 (.seq (.reg fun _ fr h k =>
  obind (pEql (Tr.get .bad q18 fr) (.int .i64 (.ofNat 2))) fun v0 =>
  forceG v0 fun v => Tr.setK .bad v q25 fr fun f25 =>
  k f25 h)
 (.cond 25 q25 (.reg fun _ fr h k =>
  forceG (Tr.get .bad q4 fr) fun v => Tr.setK .bad v q6 fr fun f6 =>
  k f6 h)
 (.seq (.reg fun _ fr h k =>
  obind (pEql (Tr.get .bad q18 fr) (.int .i64 (.ofNat 3))) fun v0 =>
  forceG v0 fun v => Tr.setK .bad v q28 fr fun f28 =>
  k f28 h)
 (.cond 28 q28 (.reg fun _ fr h k =>
  obind (pAdd (Tr.get .bad q4 fr) (Tr.get .bad q5 fr)) fun v0 =>
  forceG v0 fun v => Tr.setK .bad v q6 fr fun f6 =>
  k f6 h)
 (.seq (.reg fun _ fr h k =>
  obind (pEql (Tr.get .bad q18 fr) (.int .i64 (.ofNat 4))) fun v0 =>
  forceG v0 fun v => Tr.setK .bad v q33 fr fun f33 =>
  k f33 h)
 (.cond 33 q33 (.reg fun _ fr h k =>
  obind (pSub (Tr.get .bad q4 fr) (Tr.get .bad q5 fr)) fun v0 =>
  forceG v0 fun v => Tr.setK .bad v q6 fr fun f6 =>
  k f6 h)
 (.seq (.reg fun _ fr h k =>
  obind (pEql (Tr.get .bad q18 fr) (.int .i64 (.ofNat 5))) fun v0 =>
  forceG v0 fun v => Tr.setK .bad v q38 fr fun f38 =>
  k f38 h)
 (.cond 38 q38 (.reg fun _ fr h k =>
  obind (pAnd (Tr.get .bad q4 fr) (Tr.get .bad q5 fr)) fun v0 =>
  forceG v0 fun v => Tr.setK .bad v q6 fr fun f6 =>
  k f6 h)
 (.seq (.reg fun _ fr h k =>
  obind (pEql (Tr.get .bad q18 fr) (.int .i64 (.ofNat 6))) fun v0 =>
  forceG v0 fun v => Tr.setK .bad v q43 fr fun f43 =>
  k f43 h)
 (.cond 43 q43 (.reg fun _ fr h k =>
  obind (pOr (Tr.get .bad q4 fr) (Tr.get .bad q5 fr)) fun v0 =>
  forceG v0 fun v => Tr.setK .bad v q6 fr fun f6 =>
  k f6 h)
 (.seq (.reg fun _ fr h k =>
  obind (pEql (Tr.get .bad q18 fr) (.int .i64 (.ofNat 7))) fun v0 =>
  forceG v0 fun v => Tr.setK .bad v q48 fr fun f48 =>
  k f48 h)
 (.cond 48 q48 (.reg fun _ fr h k =>
  obind (pXor (Tr.get .bad q4 fr) (Tr.get .bad q5 fr)) fun v0 =>
  forceG v0 fun v => Tr.setK .bad v q6 fr fun f6 =>
  k f6 h)
 (.seq (.reg fun _ fr h k =>
  obind (pEql (Tr.get .bad q18 fr) (.int .i64 (.ofNat 8))) fun v0 =>
  forceG v0 fun v => Tr.setK .bad v q53 fr fun f53 =>
  k f53 h)
 (.cond 53 q53 (.reg fun _ fr h k =>
  obind (pOr (Tr.get .bad q4 fr) (Tr.get .bad q5 fr)) fun v0 =>
  obind (pCpl v0) fun v1 =>
  forceG v1 fun v => Tr.setK .bad v q6 fr fun f6 =>
  k f6 h)
 (.seq (.reg fun _ fr h k =>
  obind (pEql (Tr.get .bad q18 fr) (.int .i64 (.ofNat 9))) fun v0 =>
  forceG v0 fun v => Tr.setK .bad v q59 fr fun f59 =>
  k f59 h)
 (.cond 59 q59 (.reg fun _ fr h k =>
  obind (pRem (Tr.get .bad q5 fr) (.int .u32 (.ofNat 32))) fun v0 =>
  obind (pShl (Tr.get .bad q4 fr) v0) fun v1 =>
  forceG v1 fun v => Tr.setK .bad v q6 fr fun f6 =>
  k f6 h)
 (.seq (.reg fun _ fr h k =>
  obind (pEql (Tr.get .bad q18 fr) (.int .i64 (.ofNat 10))) fun v0 =>
  forceG v0 fun v => Tr.setK .bad v q65 fr fun f65 =>
  k f65 h)
 (.cond 65 q65 (.reg fun _ fr h k =>
  obind (pRem (Tr.get .bad q5 fr) (.int .u32 (.ofNat 32))) fun v0 =>
  obind (pShr (Tr.get .bad q4 fr) v0) fun v1 =>
  forceG v1 fun v => Tr.setK .bad v q6 fr fun f6 =>
  k f6 h)
 (.seq (.reg fun _ fr h k =>
  obind (pEql (Tr.get .bad q18 fr) (.int .i64 (.ofNat 11))) fun v0 =>
  forceG v0 fun v => Tr.setK .bad v q71 fr fun f71 =>
  k f71 h)
 (.cond 71 q71 (.reg fun call fr h k =>
  obind (pRem (Tr.get .bad q5 fr) (.int .u32 (.ofNat 32))) fun v0 =>
  obind (pConv .i64 v0) fun v1 =>
  call q153 [(Tr.get .bad q4 fr), v1] h fun v2 h3 =>
  forceG v2 fun v => Tr.setK .bad v q6 fr fun f6 =>
  k f6 h3)
 (.seq (.seq (.reg fun _ fr h k =>
  obind (pEql (Tr.get .bad q18 fr) (.int .i64 (.ofNat 12))) fun v0 =>
  forceG v0 fun v => Tr.setK .bad v q78 fr fun f78 =>
  k f78 h)
 (.cond 78 q78 .skip
 (.reg fun _ fr h k =>
  obind (pEql (Tr.get .bad q18 fr) (.int .i64 (.ofNat 13))) fun v0 =>
  forceG v0 fun v => Tr.setK .bad v q78 fr fun f78 =>
  k f78 h)))
 (.cond 78 q78 (.reg fun call fr h k =>
  obind (pFa 0 (Tr.get .bad q3 fr)) fun v0 =>
  obind (rLd1 v0 h) fun v1 =>
  obind (pEql v1 (.int .i64 (.ofNat 12))) fun v2 =>
  call q155 [(Tr.get .bad q4 fr), (Tr.get .bad q5 fr), v2] h fun v3 h4 =>
  call q154 [v3] h4 fun v4 h5 =>
  forceG v4 fun v => Tr.setK .bad v q6 fr fun f6 =>
  k f6 h5)
 (.seq (.reg fun _ fr h k =>
  obind (pEql (Tr.get .bad q18 fr) (.int .i64 (.ofNat 14))) fun v0 =>
  forceG v0 fun v => Tr.setK .bad v q88 fr fun f88 =>
  k f88 h)
 (.cond 88 q88 (.reg fun call fr h k =>
  call q156 [(Tr.get .bad q4 fr), (Tr.get .bad q5 fr), (.bool true)] h fun v0 h1 =>
  obind (pExt 0 v0) fun _ =>
  obind (pExt 1 v0) fun v2 =>
  forceG v2 fun v => Tr.setK .bad v q6 fr fun f6 =>
  k f6 h1)
 (.seq (.reg fun _ fr h k =>
  obind (pEql (Tr.get .bad q18 fr) (.int .i64 (.ofNat 15))) fun v0 =>
  forceG v0 fun v => Tr.setK .bad v q96 fr fun f96 =>
  k f96 h)
 (.cond 96 q96 (.reg fun call fr h k =>
  call q157 [(Tr.get .bad q4 fr)] h fun v0 h1 =>
  obind (pConv .u32 v0) fun v1 =>
  forceG v1 fun v => Tr.setK .bad v q6 fr fun f6 =>
  k f6 h1)
 (.seq (.reg fun _ fr h k =>
  obind (pEql (Tr.get .bad q18 fr) (.int .i64 (.ofNat 16))) fun v0 =>
  forceG v0 fun v => Tr.setK .bad v q101 fr fun f101 =>
  k f101 h)
 (.cond 101 q101 (.reg fun call fr h k =>
  call q158 [(Tr.get .bad q4 fr)] h fun v0 h1 =>
  obind (pConv .u32 v0) fun v1 =>
  forceG v1 fun v => Tr.setK .bad v q6 fr fun f6 =>
  k f6 h1)
 (.seq (.seq (.reg fun _ fr h k =>
  obind (pEql (Tr.get .bad q18 fr) (.int .i64 (.ofNat 17))) fun v0 =>
  forceG v0 fun v => Tr.setK .bad v q106 fr fun f106 =>
  k f106 h)
 (.cond 106 q106 .skip
 (.reg fun _ fr h k =>
  obind (pEql (Tr.get .bad q18 fr) (.int .i64 (.ofNat 18))) fun v0 =>
  forceG v0 fun v => Tr.setK .bad v q106 fr fun f106 =>
  k f106 h)))
 (.cond 106 q106 (.seq (.reg fun call fr h k =>
  obind (pFa 0 (Tr.get .bad q3 fr)) fun v0 =>
  obind (rLd1 v0 h) fun v1 =>
  obind (pEql v1 (.int .i64 (.ofNat 17))) fun v2 =>
  call q156 [(Tr.get .bad q4 fr), (Tr.get .bad q5 fr), v2] h fun v3 h4 =>
  obind (pExt 0 v3) fun v4 =>
  obind (pExt 1 v3) fun v5 =>
  obind (pIdxS 1 (Tr.get .bad q0 fr) (.int .i64 (.ofNat 32))) fun v6 =>
  obind (wSt1 v6 v4 h4) fun h8 =>
  obind (pIdxS 1 (Tr.get .bad q0 fr) (.int .i64 (.ofNat 33))) fun v8 =>
  obind (wSt1 v8 v5 h8) fun h10 =>
  k fr h10)
 .ret)
 (.seq (.seq (.reg fun _ fr h k =>
  obind (pEql (Tr.get .bad q18 fr) (.int .i64 (.ofNat 19))) fun v0 =>
  forceG v0 fun v => Tr.setK .bad v q122 fr fun f122 =>
  k f122 h)
 (.cond 122 q122 .skip
 (.reg fun _ fr h k =>
  obind (pEql (Tr.get .bad q18 fr) (.int .i64 (.ofNat 20))) fun v0 =>
  forceG v0 fun v => Tr.setK .bad v q122 fr fun f122 =>
  k f122 h)))
 (.cond 122 q122 (.seq (.reg fun call fr h k =>
  obind (pFa 0 (Tr.get .bad q3 fr)) fun v0 =>
  obind (rLd1 v0 h) fun v1 =>
  obind (pEql v1 (.int .i64 (.ofNat 19))) fun v2 =>
  call q159 [(Tr.get .bad q4 fr), (Tr.get .bad q5 fr), v2] h fun v3 h4 =>
  obind (pExt 0 v3) fun v4 =>
  obind (pExt 1 v3) fun v5 =>
  obind (pIdxS 1 (Tr.get .bad q0 fr) (.int .i64 (.ofNat 33))) fun v6 =>
  obind (wSt1 v6 v4 h4) fun h8 =>
  obind (pIdxS 1 (Tr.get .bad q0 fr) (.int .i64 (.ofNat 32))) fun v8 =>
  obind (wSt1 v8 v5 h8) fun h10 =>
  k fr h10)
 .ret)
 (.seq (.seq (.reg fun _ fr h k =>
  obind (pEql (Tr.get .bad q18 fr) (.int .i64 (.ofNat 21))) fun v0 =>
  forceG v0 fun v => Tr.setK .bad v q138 fr fun f138 =>
  k f138 h)
 (.cond 138 q138 .skip
 (.reg fun _ fr h k =>
  obind (pEql (Tr.get .bad q18 fr) (.int .i64 (.ofNat 22))) fun v0 =>
  forceG v0 fun v => Tr.setK .bad v q138 fr fun f138 =>
  k f138 h)))
 (.cond 138 q138 (.seq (.seq (.reg fun _ fr h k =>
  obind (pEql (Tr.get .bad q5 fr) (.int .u32 (.ofNat 0))) fun v0 =>
  obind (pFa 0 (Tr.get .bad q3 fr)) fun v1 =>
  obind (rLd1 v1 h) fun v2 =>
  obind (pEql v2 (.int .i64 (.ofNat 21))) fun v3 =>
  obind (pNeqB v0 v3) fun v4 =>
  forceG v4 fun v => Tr.setK .bad v q146 fr fun f146 =>
  k f146 h)
 (.cond 146 q146 .ret
 .skip))
 (.reg fun _ fr h k =>
  forceG (Tr.get .bad q4 fr) fun v => Tr.setK .bad v q6 fr fun f6 =>
  k f6 h))
 .skip))))))))))))))))))))))))))))))))))))))))
 (.seq (.reg fun _ fr h k =>
  obind (pFa 1 (Tr.get .bad q3 fr)) fun v0 =>
  obind (rLd1 v0 h) fun v1 =>
  obind (pGtr v1 (.int .i64 (.ofNat 0))) fun v2 =>
  forceG v2 fun v => Tr.setK .bad v q150 fr fun f150 =>
  k f150 h)
 (.cond 150 q150 (.reg fun _ fr h k =>
  obind (pFa 1 (Tr.get .bad q3 fr)) fun v0 =>
  obind (rLd1 v0 h) fun v1 =>
  obind (pIdxS 1 (Tr.get .bad q0 fr) v1) fun v2 =>
  obind (wSt1 v2 (Tr.get .bad q6 fr) h) fun h4 =>
  k fr h4)
 .skip)))))), resF []⟩
theorem g115_ok : Comp Tryz.prog Tryz.f115 2 [3, 4, 5, 6, 18, 19, 21, 25, 28, 33, 38, 43, 48, 53, 59, 65, 71, 78, 88, 96, 101, 106, 122, 138, 146, 150] g115 := ⟨_, [], rfl, by kernel_rfl, by decide, by kernel_rfl, by kernel_rfl, rfl, rfl⟩
end
end Go.Ev
