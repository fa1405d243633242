/- Ghost code of the Go functions, printed by a program of this session (genfiles.py). -/
import Derived.Test.YtbofkbhobcahiaaGreatEvComp
import Derived.Test.YtbofkbhobcahiaaGreatProg
namespace Go.Ev
open Go.Proofs
set_option maxRecDepth 100000
noncomputable section
/-- pianola/pianolaref15.where -/
def g41 : GFunc := ⟨2, (.seq (.reg fun _ fr h k =>
  forceG (.int .i64 (.ofNat 0)) fun v => Tr.setK .bad v q4 fr fun f4 =>
  forceG (.int .u32 (.ofNat 0)) fun v => Tr.setK .bad v q5 f4 fun f5 =>
  forceG (.bool false) fun v => Tr.setK .bad v q6 f5 fun f6 =>
  k f6 h)
 (.seq (.seq (.reg fun _ fr h k =>
  obind (pNeq (Tr.get .bad q1 fr) (.int .i64 (.ofNat 4))) fun v0 =>
  guardC v0 false h (fun k => k (Tr.get .bad q0 fr) h) fun v1 h2 =>
  guardC v0 false h2 (fun k => obind (pLss v1 (.int .u32 (.ofNat 520093696))) fun v => k v h2) fun v2 h3 =>
  obind (pPick v0 (.bool true) v2) fun v3 =>
  guardC v3 false h3 (fun k => k (Tr.get .bad q0 fr) h3) fun v4 h5 =>
  guardC v3 false h5 (fun k => obind (pGeq v4 (.int .u32 (.ofNat 520094080))) fun v => k v h5) fun v5 h6 =>
  obind (pPick v3 (.bool true) v5) fun v6 =>
  guardC v6 false h6 (fun k => k (Tr.get .bad q0 fr) h6) fun v7 h8 =>
  guardC v6 false h8 (fun k => obind (pRem v7 (.int .u32 (.ofNat 4))) fun v => k v h8) fun v8 h9 =>
  guardC v6 false h9 (fun k => obind (pNeq v8 (.int .u32 (.ofNat 0))) fun v => k v h9) fun v9 h10 =>
  obind (pPick v6 (.bool true) v9) fun v10 =>
  forceG v10 fun v => Tr.setK .bad v q22 fr fun f22 =>
  k f22 h10)
 (.cond 22 q22 (.seq (.reg fun _ fr h k =>
  forceG (.int .i64 (.ofNat 0)) fun v => Tr.setK .bad v q4 fr fun f4 =>
  forceG (.int .u32 (.ofNat 0)) fun v => Tr.setK .bad v q5 f4 fun f5 =>
  forceG (.bool false) fun v => Tr.setK .bad v q6 f5 fun f6 =>
  k f6 h)
 .ret)
 .skip))
 (.seq (.reg fun _ fr h k =>
  obind (pSub (Tr.get .bad q0 fr) (.int .u32 (.ofNat 520093696))) fun v0 =>
  forceG v0 fun v => Tr.setK .bad v q7 fr fun f7 =>
  k f7 h)
 (.seq (.reg fun _ fr h k =>
  obind (pQuo (Tr.get .bad q7 fr) (.int .u32 (.ofNat 64))) fun v0 =>
  obind (pConv .i64 v0) fun v1 =>
  obind (pRem (Tr.get .bad q7 fr) (.int .u32 (.ofNat 64))) fun v2 =>
  forceG v1 fun v => Tr.setK .bad v q4 fr fun f4 =>
  forceG v2 fun v => Tr.setK .bad v q5 f4 fun f5 =>
  forceG (.bool true) fun v => Tr.setK .bad v q6 f5 fun f6 =>
  k f6 h)
 .ret)))), resF [.t 4, .t 5, .t 6]⟩
theorem g41_ok : Comp Tryz.prog Tryz.f41 2 [4, 5, 6, 7, 22] g41 := ⟨_, [.t 4, .t 5, .t 6], rfl, by kernel_rfl, by decide, by kernel_rfl, by kernel_rfl, rfl, rfl⟩
/-- (*pianola/pianolaref15.Bus).Word -/
def g42 : GFunc := ⟨4, (.seq (.reg fun _ fr h k =>
  forceG (.int .u32 (.ofNat 0)) fun v => Tr.setK .bad v q8 fr fun f8 =>
  forceG (.bool false) fun v => Tr.setK .bad v q9 f8 fun f9 =>
  k f9 h)
 (.seq (.reg fun _ fr h k =>
  obind2 (nBuildS (rep [.int .u32 (.ofNat 0)] 0) 0 1 (some (.u32, 32)) [] h) fun v0 h1 =>
  forceG v0 fun v => Tr.setK .bad v q10 fr fun f10 =>
  k f10 h1)
 (.seq (.seq (.reg fun _ fr h k =>
  forceG (Tr.get .bad q1 fr) fun v => Tr.setK .bad v q14 fr fun f14 =>
  k f14 h)
 (.block 0 (.seq (.reg fun _ fr h k =>
  obind (pEql (Tr.get .bad q14 fr) (.int .i64 (.ofNat 0))) fun v0 =>
  forceG v0 fun v => Tr.setK .bad v q15 fr fun f15 =>
  k f15 h)
 (.cond 15 q15 (.reg fun _ fr h k =>
  obind (pNilck (Tr.get .bad q0 fr)) fun v0 =>
  obind (pFa 23 v0) fun v1 =>
  obind (rLd1 v1 h) fun v2 =>
  obind (pNilck (Tr.get .bad q0 fr)) fun v3 =>
  obind (pFa 24 v3) fun v4 =>
  obind (rLd1 v4 h) fun v5 =>
  obind (pConv .u64 (Tr.get .bad q3 fr)) fun v6 =>
  obind (pConv .u32 v6) fun v7 =>
  obind (pConv .u64 (Tr.get .bad q3 fr)) fun v8 =>
  obind (pShr v8 (.int .u64 (.ofNat 32))) fun v9 =>
  obind (pConv .u32 v9) fun v10 =>
  obind2 (nBuildS (rep [.int .u32 (.ofNat 0)] 4) 4 1 (some (.u32, 32)) [(0, 1, v2), (1, 1, v5), (2, 1, v7), (3, 1, v10)] h) fun v11 h12 =>
  forceG v11 fun v => Tr.setK .bad v q10 fr fun f10 =>
  k f10 h12)
 (.seq (.seq (.reg fun _ fr h k =>
  obind (pEql (Tr.get .bad q14 fr) (.int .i64 (.ofNat 1))) fun v0 =>
  forceG v0 fun v => Tr.setK .bad v q33 fr fun f33 =>
  k f33 h)
 (.cond 33 q33 .skip
 (.reg fun _ fr h k =>
  obind (pEql (Tr.get .bad q14 fr) (.int .i64 (.ofNat 2))) fun v0 =>
  forceG v0 fun v => Tr.setK .bad v q33 fr fun f33 =>
  k f33 h)))
 (.cond 33 q33 (.seq (.reg fun _ fr h k =>
  obind (pSub (Tr.get .bad q1 fr) (.int .i64 (.ofNat 1))) fun v0 =>
  obind (pNilck (Tr.get .bad q0 fr)) fun v1 =>
  obind (pFa 3 v1) fun v2 =>
  obind (pIdxA 2 3 v2 v0) fun v3 =>
  obind (rLdN 3 v3 h) fun v4 =>
  obind2 (nAlloc [.int .u32 (.ofNat 0), .int .u32 (.ofNat 0), .int .u32 (.ofNat 0)] h) fun v5 h6 =>
  obind (wStN 3 v5 v4 h6) fun h7 =>
  forceG v5 fun v => Tr.setK .bad v q11 fr fun f11 =>
  k f11 h7)
 (.reg fun _ fr h k =>
  obind (pFa 0 (Tr.get .bad q11 fr)) fun v0 =>
  obind (rLd1 v0 h) fun v1 =>
  obind (pFa 1 (Tr.get .bad q11 fr)) fun v2 =>
  obind (rLd1 v2 h) fun v3 =>
  obind (pFa 2 (Tr.get .bad q11 fr)) fun v4 =>
  obind (rLd1 v4 h) fun v5 =>
  obind2 (nBuildS (rep [.int .u32 (.ofNat 0)] 3) 3 1 (some (.u32, 32)) [(0, 1, v1), (1, 1, v3), (2, 1, v5)] h) fun v6 h7 =>
  forceG v6 fun v => Tr.setK .bad v q10 fr fun f10 =>
  k f10 h7))
 (.seq (.reg fun _ fr h k =>
  obind (pEql (Tr.get .bad q14 fr) (.int .i64 (.ofNat 3))) fun v0 =>
  forceG v0 fun v => Tr.setK .bad v q50 fr fun f50 =>
  k f50 h)
 (.cond 50 q50 (.seq (.reg fun _ fr h k =>
  forceG (.int .u32 (.ofNat 256)) fun v => Tr.setK .bad v q12 fr fun f12 =>
  k f12 h)
 (.seq (.seq (.reg fun _ fr h k =>
  obind (pNilck (Tr.get .bad q0 fr)) fun v0 =>
  obind (pFa 9 v0) fun v1 =>
  obind (pFa 0 v1) fun v2 =>
  obind (rLd1 v2 h) fun v3 =>
  obind (pLenS v3) fun v4 =>
  obind (pGtr v4 (.int .i64 (.ofNat 0))) fun v5 =>
  forceG v5 fun v => Tr.setK .bad v q58 fr fun f58 =>
  k f58 h)
 (.cond 58 q58 (.reg fun _ fr h k =>
  obind (pNilck (Tr.get .bad q0 fr)) fun v0 =>
  obind (pFa 9 v0) fun v1 =>
  obind (pFa 0 v1) fun v2 =>
  obind (rLd1 v2 h) fun v3 =>
  obind (pIdxS 1 v3 (.int .i64 (.ofNat 0))) fun v4 =>
  obind (rLd1 v4 h) fun v5 =>
  obind (pConv .u32 v5) fun v6 =>
  forceG v6 fun v => Tr.setK .bad v q12 fr fun f12 =>
  k f12 h)
 .skip))
 (.reg fun call fr h k =>
  obind (pNilck (Tr.get .bad q0 fr)) fun v0 =>
  obind (pFa 9 v0) fun v1 =>
  obind (pFa 0 v1) fun v2 =>
  obind (rLd1 v2 h) fun v3 =>
  obind (pLenS v3) fun v4 =>
  obind (pGtr v4 (.int .i64 (.ofNat 0))) fun v5 =>
  call q86 [v5, (.int .u64 (.ofNat 0))] h fun v6 h7 =>
  obind (pNilck (Tr.get .bad q0 fr)) fun v7 =>
  obind (pFa 9 v7) fun v8 =>
  obind (pFa 1 v8) fun v9 =>
  obind (rLd1 v9 h7) fun v10 =>
  obind (pLenS v10) fun v11 =>
  obind (pGeq v11 (.int .i64 (.ofNat 16))) fun v12 =>
  call q86 [v12, (.int .u64 (.ofNat 1))] h7 fun v13 h14 =>
  obind (pOr v6 v13) fun v14 =>
  obind (pNilck (Tr.get .bad q0 fr)) fun v15 =>
  obind (pFa 9 v15) fun v16 =>
  obind (pFa 2 v16) fun v17 =>
  obind (rLd1 v17 h14) fun v18 =>
  call q86 [v18, (.int .u64 (.ofNat 2))] h14 fun v19 h20 =>
  obind (pOr v14 v19) fun v20 =>
  obind (pNilck (Tr.get .bad q0 fr)) fun v21 =>
  obind (pFa 9 v21) fun v22 =>
  obind (pFa 1 v22) fun v23 =>
  obind (rLd1 v23 h20) fun v24 =>
  obind (pLenS v24) fun v25 =>
  obind (pEql v25 (.int .i64 (.ofNat 0))) fun v26 =>
  call q86 [v26, (.int .u64 (.ofNat 3))] h20 fun v27 h28 =>
  obind (pOr v20 v27) fun v28 =>
  obind (pNilck (Tr.get .bad q0 fr)) fun v29 =>
  obind (pFa 9 v29) fun v30 =>
  obind (pFa 3 v30) fun v31 =>
  obind (rLd1 v31 h28) fun v32 =>
  obind2 (nBuildS (rep [.int .u32 (.ofNat 0)] 3) 3 1 (some (.u32, 32)) [(0, 1, (Tr.get .bad q12 fr)), (1, 1, v28), (2, 1, v32)] h28) fun v33 h34 =>
  chk v10 (rLd1 v9 h) <|
  chk v18 (rLd1 v17 h) <|
  chk v18 (rLd1 v17 h7) <|
  chk v24 (rLd1 v23 h) <|
  chk v24 (rLd1 v23 h7) <|
  chk v24 (rLd1 v23 h14) <|
  chk v32 (rLd1 v31 h) <|
  chk v32 (rLd1 v31 h7) <|
  chk v32 (rLd1 v31 h14) <|
  chk v32 (rLd1 v31 h20) <|
  forceG v33 fun v => Tr.setK .bad v q10 fr fun f10 =>
  k f10 h34)))
 (.seq (.reg fun _ fr h k =>
  obind (pEql (Tr.get .bad q14 fr) (.int .i64 (.ofNat 4))) fun v0 =>
  forceG v0 fun v => Tr.setK .bad v q107 fr fun f107 =>
  k f107 h)
 (.cond 107 q107 (.reg fun _ fr h k =>
  obind (pNilck (Tr.get .bad q0 fr)) fun v0 =>
  obind (pFa 14 v0) fun v1 =>
  obind (pFa 0 v1) fun v2 =>
  obind (rLd1 v2 h) fun v3 =>
  obind (pNilck (Tr.get .bad q0 fr)) fun v4 =>
  obind (pFa 14 v4) fun v5 =>
  obind (pFa 1 v5) fun v6 =>
  obind (rLd1 v6 h) fun v7 =>
  obind (pNilck (Tr.get .bad q0 fr)) fun v8 =>
  obind (pFa 14 v8) fun v9 =>
  obind (pFa 2 v9) fun v10 =>
  obind (rLd1 v10 h) fun v11 =>
  obind (pNilck (Tr.get .bad q0 fr)) fun v12 =>
  obind (pFa 14 v12) fun v13 =>
  obind (pFa 3 v13) fun v14 =>
  obind (rLd1 v14 h) fun v15 =>
  obind2 (nBuildS (rep [.int .u32 (.ofNat 0)] 5) 5 1 (some (.u32, 32)) [(0, 1, v3), (1, 1, v7), (2, 1, v11), (3, 1, (.int .u32 (.ofNat 0))), (4, 1, v15)] h) fun v16 h17 =>
  forceG v16 fun v => Tr.setK .bad v q10 fr fun f10 =>
  k f10 h17)
 (.seq (.reg fun _ fr h k =>
  obind (pEql (Tr.get .bad q14 fr) (.int .i64 (.ofNat 5))) fun v0 =>
  forceG v0 fun v => Tr.setK .bad v q130 fr fun f130 =>
  k f130 h)
 (.cond 130 q130 (.reg fun _ fr h k =>
  obind (pNilck (Tr.get .bad q0 fr)) fun v0 =>
  obind (pFa 18 v0) fun v1 =>
  obind (pFa 0 v1) fun v2 =>
  obind (rLd1 v2 h) fun v3 =>
  obind (pNilck (Tr.get .bad q0 fr)) fun v4 =>
  obind (pFa 18 v4) fun v5 =>
  obind (pFa 1 v5) fun v6 =>
  obind (rLd1 v6 h) fun v7 =>
  obind (pNilck (Tr.get .bad q0 fr)) fun v8 =>
  obind (pFa 18 v8) fun v9 =>
  obind (pFa 2 v9) fun v10 =>
  obind (rLd1 v10 h) fun v11 =>
  obind (pNilck (Tr.get .bad q0 fr)) fun v12 =>
  obind (pFa 18 v12) fun v13 =>
  obind (pFa 3 v13) fun v14 =>
  obind (rLd1 v14 h) fun v15 =>
  obind2 (nBuildS (rep [.int .u32 (.ofNat 0)] 4) 4 1 (some (.u32, 32)) [(0, 1, v3), (1, 1, v7), (2, 1, v11), (3, 1, v15)] h) fun v16 h17 =>
  forceG v16 fun v => Tr.setK .bad v q10 fr fun f10 =>
  k f10 h17)
 .skip))))))))))))
 (.seq (.seq (.reg fun _ fr h k =>
  obind (pRem (Tr.get .bad q2 fr) (.int .u32 (.ofNat 4))) fun v0 =>
  obind (pNeq v0 (.int .u32 (.ofNat 0))) fun v1 =>
  guardC v1 false h (fun k => k (Tr.get .bad q2 fr) h) fun v2 h3 =>
  guardC v1 false h3 (fun k => obind (pQuo v2 (.int .u32 (.ofNat 4))) fun v => k v h3) fun v3 h4 =>
  guardC v1 false h4 (fun k => k (Tr.get .bad q10 fr) h4) fun v4 h5 =>
  guardC v1 false h5 (fun k => obind (pLenS v4) fun v => k v h5) fun v5 h6 =>
  guardC v1 false h6 (fun k => obind (pConv .u32 v5) fun v => k v h6) fun v6 h7 =>
  guardC v1 false h7 (fun k => obind (pGeq v3 v6) fun v => k v h7) fun v7 h8 =>
  obind (pPick v1 (.bool true) v7) fun v8 =>
  forceG v8 fun v => Tr.setK .bad v q163 fr fun f163 =>
  k f163 h8)
 (.cond 163 q163 (.seq (.reg fun _ fr h k =>
  forceG (.int .u32 (.ofNat 0)) fun v => Tr.setK .bad v q8 fr fun f8 =>
  forceG (.bool false) fun v => Tr.setK .bad v q9 f8 fun f9 =>
  k f9 h)
 .ret)
 .skip))
 (.seq (.seq (.reg fun _ fr h k =>
  obind (pEql (Tr.get .bad q1 fr) (.int .i64 (.ofNat 3))) fun v0 =>
  guardC v0 true h (fun k => k (Tr.get .bad q2 fr) h) fun v1 h2 =>
  guardC v0 true h2 (fun k => obind (pEql v1 (.int .u32 (.ofNat 0))) fun v => k v h2) fun v2 h3 =>
  obind (pPick v0 v2 (.bool false)) fun v3 =>
  guardC v3 true h3 (fun k => k (Tr.get .bad q0 fr) h3) fun v4 h5 =>
  guardC v3 true h5 (fun k => obind (pNilck v4) fun v => k v h5) fun v5 h6 =>
  guardC v3 true h6 (fun k => obind (pFa 9 v5) fun v => k v h6) fun v6 h7 =>
  guardC v3 true h7 (fun k => obind (pFa 0 v6) fun v => k v h7) fun v7 h8 =>
  guardC v3 true h8 (fun k => obind (rLd1 v7 h8) fun v => k v h8) fun v8 h9 =>
  guardC v3 true h9 (fun k => obind (pLenS v8) fun v => k v h9) fun v9 h10 =>
  guardC v3 true h10 (fun k => obind (pGtr v9 (.int .i64 (.ofNat 0))) fun v => k v h10) fun v10 h11 =>
  obind (pPick v3 v10 (.bool false)) fun v11 =>
  forceG v11 fun v => Tr.setK .bad v q178 fr fun f178 =>
  k f178 h11)
 (.cond 178 q178 (.reg fun _ fr h k =>
  obind2 (nBuildS (rep [.int .u8 (.ofNat 0)] 0) 0 1 (some (.u8, 8)) [] h) fun v0 h1 =>
  obind (pNilck (Tr.get .bad q0 fr)) fun v1 =>
  obind (pFa 9 v1) fun v2 =>
  obind (pFa 0 v2) fun v3 =>
  obind (rLd1 v3 h1) fun v4 =>
  obind (pSlS 1 (some (.int .i64 (.ofNat 1))) none none v4) fun v5 =>
  obind2 (nAppend 1 1 (some (.u8, 8)) v0 v5 h1) fun v6 h7 =>
  obind (pNilck (Tr.get .bad q0 fr)) fun v7 =>
  obind (pFa 9 v7) fun v8 =>
  obind (pFa 0 v8) fun v9 =>
  obind (wSt1 v9 v6 h7) fun h11 =>
  k fr h11)
 .skip))
 (.seq (.reg fun _ fr h k =>
  obind (pQuo (Tr.get .bad q2 fr) (.int .u32 (.ofNat 4))) fun v0 =>
  obind (pIdxS 1 (Tr.get .bad q10 fr) v0) fun v1 =>
  obind (rLd1 v1 h) fun v2 =>
  forceG v2 fun v => Tr.setK .bad v q8 fr fun f8 =>
  forceG (.bool true) fun v => Tr.setK .bad v q9 f8 fun f9 =>
  k f9 h)
 .ret)))))), resF [.t 8, .t 9]⟩
theorem g42_ok : Comp Tryz.prog Tryz.f42 4 [8, 9, 10, 11, 12, 14, 15, 33, 50, 58, 107, 130, 163, 178] g42 := ⟨_, [.t 8, .t 9], rfl, by kernel_rfl, by decide, by kernel_rfl, by kernel_rfl, rfl, rfl⟩
/-- (*pianola/pianolaref15.Bus).gather -/
def g43 : GFunc := ⟨1, (.seq (.reg fun _ fr h k =>
  obind (pNilck (Tr.get .bad q0 fr)) fun v0 =>
  obind (pFa 23 v0) fun v1 =>
  obind (wSt1 v1 (.int .u32 (.ofNat 0)) h) fun h3 =>
  k fr h3)
 (.seq (.reg fun _ fr h k =>
  forceG (.int .i64 (.ofNat 1)) fun v => Tr.setK .bad v q2 fr fun f2 =>
  k f2 h)
 (.block 0 (.loop (.seq (.seq (.reg fun _ fr h k =>
  obind (pLss (Tr.get .bad q2 fr) (.int .i64 (.ofNat 6))) fun v0 =>
  forceG v0 fun v => Tr.setK .bad v q7 fr fun f7 =>
  k f7 h)
 (.cond 7 q7 .skip
 (.exit 0)))
 (.seq (.block 1 (.seq (.reg fun call fr h k =>
  call q87 [(Tr.get .bad q0 fr), (Tr.get .bad q2 fr)] h fun v0 h1 =>
  forceG v0 fun v => Tr.setK .bad v q12 fr fun f12 =>
  k f12 h1)
 (.cond 12 q12 (.reg fun _ fr h k =>
  obind (pNilck (Tr.get .bad q0 fr)) fun v0 =>
  obind (pFa 23 v0) fun v1 =>
  obind (rLd1 v1 h) fun v2 =>
  obind (pConv .u64 (Tr.get .bad q2 fr)) fun v3 =>
  obind (pShl (.int .u32 (.ofNat 1)) v3) fun v4 =>
  obind (pOr v2 v4) fun v5 =>
  obind (pNilck (Tr.get .bad q0 fr)) fun v6 =>
  obind (pFa 23 v6) fun v7 =>
  obind (wSt1 v7 v5 h) fun h9 =>
  k fr h9)
 .skip)))
 (.reg fun _ fr h k =>
  obind (pAdd (Tr.get .bad q2 fr) (.int .i64 (.ofNat 1))) fun v0 =>
  forceG v0 fun v => Tr.setK .bad v q2 fr fun f2 =>
  k f2 h))))))), resF []⟩
theorem g43_ok : Comp Tryz.prog Tryz.f43 1 [2, 7, 12] g43 := ⟨_, [], rfl, by kernel_rfl, by decide, by kernel_rfl, by kernel_rfl, rfl, rfl⟩
/-- (*pianola/bus.Bus).write -/
def g44 : GFunc := ⟨5, (.seq (.reg fun _ fr h k =>
  forceG (.bool false) fun v => Tr.setK .bad v q10 fr fun f10 =>
  k f10 h)
 (.seq (.seq (.reg fun _ fr h k =>
  forceG (Tr.get .bad q1 fr) fun v => Tr.setK .bad v q11 fr fun f11 =>
  k f11 h)
 (.block 0 (.seq (.reg fun _ fr h k =>
  obind (pEql (Tr.get .bad q11 fr) (.int .i64 (.ofNat 0))) fun v0 =>
  forceG v0 fun v => Tr.setK .bad v q12 fr fun f12 =>
  k f12 h)
 (.cond 12 q12 (.seq (.reg fun call fr h k =>
  obind (pNilck (Tr.get .bad q0 fr)) fun v0 =>
  obind (pFa 2 v0) fun v1 =>
  obind (rLd1 v1 h) fun v2 =>
  call q88 [v2, (Tr.get .bad q2 fr), (Tr.get .bad q3 fr)] h fun v3 h4 =>
  forceG v3 fun v => Tr.setK .bad v q10 fr fun f10 =>
  k f10 h4)
 .ret)
 (.seq (.reg fun _ fr h k =>
  obind (pEql (Tr.get .bad q11 fr) (.int .i64 (.ofNat 1))) fun v0 =>
  forceG v0 fun v => Tr.setK .bad v q21 fr fun f21 =>
  k f21 h)
 (.cond 21 q21 (.seq (.reg fun call fr h k =>
  obind (pNilck (Tr.get .bad q0 fr)) fun v0 =>
  obind (pFa 3 v0) fun v1 =>
  obind (rLd1 v1 h) fun v2 =>
  call q89 [v2, (Tr.get .bad q2 fr), (Tr.get .bad q3 fr), (Tr.get .bad q4 fr)] h fun v3 h4 =>
  forceG v3 fun v => Tr.setK .bad v q10 fr fun f10 =>
  k f10 h4)
 .ret)
 (.seq (.reg fun _ fr h k =>
  obind (pEql (Tr.get .bad q11 fr) (.int .i64 (.ofNat 2))) fun v0 =>
  forceG v0 fun v => Tr.setK .bad v q31 fr fun f31 =>
  k f31 h)
 (.cond 31 q31 (.seq (.reg fun call fr h k =>
  obind (pNilck (Tr.get .bad q0 fr)) fun v0 =>
  obind (pFa 4 v0) fun v1 =>
  obind (rLd1 v1 h) fun v2 =>
  call q89 [v2, (Tr.get .bad q2 fr), (Tr.get .bad q3 fr), (Tr.get .bad q4 fr)] h fun v3 h4 =>
  forceG v3 fun v => Tr.setK .bad v q10 fr fun f10 =>
  k f10 h4)
 .ret)
 (.seq (.reg fun _ fr h k =>
  obind (pEql (Tr.get .bad q11 fr) (.int .i64 (.ofNat 3))) fun v0 =>
  forceG v0 fun v => Tr.setK .bad v q41 fr fun f41 =>
  k f41 h)
 (.cond 41 q41 (.seq (.reg fun call fr h k =>
  obind (pNilck (Tr.get .bad q0 fr)) fun v0 =>
  obind (pFa 5 v0) fun v1 =>
  obind (rLd1 v1 h) fun v2 =>
  call q90 [v2, (Tr.get .bad q2 fr), (Tr.get .bad q3 fr), (Tr.get .bad q4 fr)] h fun v3 h4 =>
  forceG v3 fun v => Tr.setK .bad v q10 fr fun f10 =>
  k f10 h4)
 .ret)
 (.seq (.reg fun _ fr h k =>
  obind (pEql (Tr.get .bad q11 fr) (.int .i64 (.ofNat 4))) fun v0 =>
  forceG v0 fun v => Tr.setK .bad v q51 fr fun f51 =>
  k f51 h)
 (.cond 51 q51 (.seq (.reg fun call fr h k =>
  obind (pNilck (Tr.get .bad q0 fr)) fun v0 =>
  obind (pFa 6 v0) fun v1 =>
  obind (rLd1 v1 h) fun v2 =>
  call q91 [v2, (Tr.get .bad q2 fr), (Tr.get .bad q3 fr), (Tr.get .bad q4 fr)] h fun v3 h4 =>
  forceG v3 fun v => Tr.setK .bad v q10 fr fun f10 =>
  k f10 h4)
 .ret)
 .skip))))))))))))
 (.seq (.reg fun call fr h k =>
  obind (pNilck (Tr.get .bad q0 fr)) fun v0 =>
  obind (pFa 7 v0) fun v1 =>
  obind (rLd1 v1 h) fun v2 =>
  call q92 [v2, (Tr.get .bad q2 fr), (Tr.get .bad q3 fr), (Tr.get .bad q4 fr)] h fun v3 h4 =>
  forceG v3 fun v => Tr.setK .bad v q10 fr fun f10 =>
  k f10 h4)
 .ret))), resF [.t 10]⟩
theorem g44_ok : Comp Tryz.prog Tryz.f44 5 [10, 11, 12, 21, 31, 41, 51] g44 := ⟨_, [.t 10], rfl, by kernel_rfl, by decide, by kernel_rfl, by kernel_rfl, rfl, rfl⟩
/-- (*pianola/pianolaref2.Ram).Store -/
def g45 : GFunc := ⟨4, (.seq (.reg fun _ fr h k =>
  forceG (.bool false) fun v => Tr.setK .bad v q8 fr fun f8 =>
  k f8 h)
 (.seq (.seq (.reg fun call fr h k =>
  obind (pNeq (Tr.get .bad q2 fr) (.int .i64 (.ofNat 1))) fun v0 =>
  guardC v0 true h (fun k => k (Tr.get .bad q2 fr) h) fun v1 h2 =>
  guardC v0 true h2 (fun k => obind (pNeq v1 (.int .i64 (.ofNat 2))) fun v => k v h2) fun v2 h3 =>
  obind (pPick v0 v2 (.bool false)) fun v3 =>
  guardC v3 true h3 (fun k => k (Tr.get .bad q2 fr) h3) fun v4 h5 =>
  guardC v3 true h5 (fun k => obind (pNeq v4 (.int .i64 (.ofNat 4))) fun v => k v h5) fun v5 h6 =>
  obind (pPick v3 v5 (.bool false)) fun v6 =>
  guardC v6 false h6 (fun k => k (Tr.get .bad q1 fr) h6) fun v7 h8 =>
  guardC v6 false h8 (fun k => k (Tr.get .bad q2 fr) h8) fun v8 h9 =>
  guardC v6 false h9 (fun k => obind (pConv .u32 v8) fun v => k v h9) fun v9 h10 =>
  guardC v6 false h10 (fun k => obind (pRem v7 v9) fun v => k v h10) fun v10 h11 =>
  guardC v6 false h11 (fun k => obind (pNeq v10 (.int .u32 (.ofNat 0))) fun v => k v h11) fun v11 h12 =>
  obind (pPick v6 (.bool true) v11) fun v12 =>
  guardC v12 false h12 (fun k => k (Tr.get .bad q0 fr) h12) fun v13 h14 =>
  guardC v12 false h14 (fun k => k (Tr.get .bad q1 fr) h14) fun v14 h15 =>
  guardC v12 false h15 (fun k => k (Tr.get .bad q2 fr) h15) fun v15 h16 =>
  guardC v12 false h16 (fun k => call q85 [v13, v14, v15] h16 k) fun v16 h17 =>
  guardC v12 false h17 (fun k => obind (pNot v16) fun v => k v h17) fun v17 h18 =>
  obind (pPick v12 (.bool true) v17) fun v18 =>
  forceG v18 fun v => Tr.setK .bad v q33 fr fun f33 =>
  k f33 h18)
 (.cond 33 q33 (.seq (.reg fun _ fr h k =>
  forceG (.bool false) fun v => Tr.setK .bad v q8 fr fun f8 =>
  k f8 h)
 .ret)
 .skip))
 (.seq (.seq (.reg fun _ fr h k =>
  forceG (.int .i64 (.ofNat 0)) fun v => Tr.setK .bad v q9 fr fun f9 =>
  k f9 h)
 (.block 0 (.loop (.seq (.seq (.reg fun _ fr h k =>
  obind (pLss (Tr.get .bad q9 fr) (Tr.get .bad q2 fr)) fun v0 =>
  forceG v0 fun v => Tr.setK .bad v q36 fr fun f36 =>
  k f36 h)
 (.cond 36 q36 .skip
 (.exit 0)))
 (.seq (.block 1 (.reg fun _ fr h k =>
  obind (pNilck (Tr.get .bad q0 fr)) fun v0 =>
  obind (pFa 0 v0) fun v1 =>
  obind (rLd1 v1 h) fun v2 =>
  obind (pConv .i64 (Tr.get .bad q1 fr)) fun v3 =>
  obind (pAdd v3 (Tr.get .bad q9 fr)) fun v4 =>
  obind (pSub (Tr.get .bad q2 fr) (.int .i64 (.ofNat 1))) fun v5 =>
  obind (pSub v5 (Tr.get .bad q9 fr)) fun v6 =>
  obind (pMul (.int .i64 (.ofNat 8)) v6) fun v7 =>
  obind (pConv .u64 v7) fun v8 =>
  obind (pShr (Tr.get .bad q3 fr) v8) fun v9 =>
  obind (pConv .u8 v9) fun v10 =>
  obind (pIdxS 1 v2 v4) fun v11 =>
  obind (wSt1 v11 v10 h) fun h13 =>
  k fr h13))
 (.reg fun _ fr h k =>
  obind (pAdd (Tr.get .bad q9 fr) (.int .i64 (.ofNat 1))) fun v0 =>
  forceG v0 fun v => Tr.setK .bad v q9 fr fun f9 =>
  k f9 h))))))
 (.seq (.reg fun call fr h k =>
  call q93 [(Tr.get .bad q0 fr), (Tr.get .bad q1 fr), (Tr.get .bad q2 fr)] h fun _ h1 =>
  k fr h1)
 (.seq (.reg fun _ fr h k =>
  forceG (.bool true) fun v => Tr.setK .bad v q8 fr fun f8 =>
  k f8 h)
 .ret))))), resF [.t 8]⟩
theorem g45_ok : Comp Tryz.prog Tryz.f45 4 [8, 9, 33, 36] g45 := ⟨_, [.t 8], rfl, by kernel_rfl, by decide, by kernel_rfl, by kernel_rfl, rfl, rfl⟩
/-- (*pianola/pianolaref15.Bus).Set -/
def g46 : GFunc := ⟨5, (.seq (.reg fun _ fr h k =>
  forceG (.bool false) fun v => Tr.setK .bad v q10 fr fun f10 =>
  k f10 h)
 (.seq (.seq (.reg fun _ fr h k =>
  obind (pRem (Tr.get .bad q2 fr) (.int .u32 (.ofNat 4))) fun v0 =>
  obind (pNeq v0 (.int .u32 (.ofNat 0))) fun v1 =>
  forceG v1 fun v => Tr.setK .bad v q13 fr fun f13 =>
  k f13 h)
 (.cond 13 q13 (.seq (.reg fun _ fr h k =>
  forceG (.bool false) fun v => Tr.setK .bad v q10 fr fun f10 =>
  k f10 h)
 .ret)
 .skip))
 (.seq (.seq (.reg fun _ fr h k =>
  forceG (Tr.get .bad q1 fr) fun v => Tr.setK .bad v q14 fr fun f14 =>
  k f14 h)
 (.block 0 (.seq (.reg fun _ fr h k =>
  obind (pEql (Tr.get .bad q14 fr) (.int .i64 (.ofNat 0))) fun v0 =>
  forceG v0 fun v => Tr.setK .bad v q15 fr fun f15 =>
  k f15 h)
 (.cond 15 q15 (.seq (.seq (.reg fun _ fr h k =>
  obind (pEql (Tr.get .bad q2 fr) (.int .u32 (.ofNat 4))) fun v0 =>
  forceG v0 fun v => Tr.setK .bad v q18 fr fun f18 =>
  k f18 h)
 (.cond 18 q18 (.reg fun _ fr h k =>
  obind (pAnd (Tr.get .bad q3 fr) (.int .u32 (.ofNat 62))) fun v0 =>
  obind (pNilck (Tr.get .bad q0 fr)) fun v1 =>
  obind (pFa 24 v1) fun v2 =>
  obind (wSt1 v2 v0 h) fun h4 =>
  k fr h4)
 .skip))
 (.seq (.reg fun _ fr h k =>
  obind (pLss (Tr.get .bad q2 fr) (.int .u32 (.ofNat 16))) fun v0 =>
  forceG v0 fun v => Tr.setK .bad v q10 fr fun f10 =>
  k f10 h)
 .ret))
 (.seq (.seq (.reg fun _ fr h k =>
  obind (pEql (Tr.get .bad q14 fr) (.int .i64 (.ofNat 1))) fun v0 =>
  forceG v0 fun v => Tr.setK .bad v q26 fr fun f26 =>
  k f26 h)
 (.cond 26 q26 .skip
 (.reg fun _ fr h k =>
  obind (pEql (Tr.get .bad q14 fr) (.int .i64 (.ofNat 2))) fun v0 =>
  forceG v0 fun v => Tr.setK .bad v q26 fr fun f26 =>
  k f26 h)))
 (.cond 26 q26 (.seq (.reg fun call fr h k =>
  obind (pQuo (Tr.get .bad q2 fr) (.int .u32 (.ofNat 4))) fun v0 =>
  call q94 [(Tr.get .bad q0 fr), (Tr.get .bad q1 fr), v0, (Tr.get .bad q3 fr), (Tr.get .bad q4 fr)] h fun v1 h2 =>
  forceG v1 fun v => Tr.setK .bad v q10 fr fun f10 =>
  k f10 h2)
 .ret)
 (.seq (.reg fun _ fr h k =>
  obind (pEql (Tr.get .bad q14 fr) (.int .i64 (.ofNat 3))) fun v0 =>
  forceG v0 fun v => Tr.setK .bad v q36 fr fun f36 =>
  k f36 h)
 (.cond 36 q36 (.seq (.reg fun call fr h k =>
  obind (pQuo (Tr.get .bad q2 fr) (.int .u32 (.ofNat 4))) fun v0 =>
  call q95 [(Tr.get .bad q0 fr), v0, (Tr.get .bad q3 fr), (Tr.get .bad q4 fr)] h fun v1 h2 =>
  forceG v1 fun v => Tr.setK .bad v q10 fr fun f10 =>
  k f10 h2)
 .ret)
 (.seq (.reg fun _ fr h k =>
  obind (pEql (Tr.get .bad q14 fr) (.int .i64 (.ofNat 4))) fun v0 =>
  forceG v0 fun v => Tr.setK .bad v q44 fr fun f44 =>
  k f44 h)
 (.cond 44 q44 (.seq (.reg fun call fr h k =>
  obind (pQuo (Tr.get .bad q2 fr) (.int .u32 (.ofNat 4))) fun v0 =>
  call q96 [(Tr.get .bad q0 fr), v0, (Tr.get .bad q3 fr), (Tr.get .bad q4 fr)] h fun v1 h2 =>
  forceG v1 fun v => Tr.setK .bad v q10 fr fun f10 =>
  k f10 h2)
 .ret)
 (.seq (.reg fun _ fr h k =>
  obind (pEql (Tr.get .bad q14 fr) (.int .i64 (.ofNat 5))) fun v0 =>
  forceG v0 fun v => Tr.setK .bad v q52 fr fun f52 =>
  k f52 h)
 (.cond 52 q52 (.seq (.reg fun call fr h k =>
  obind (pQuo (Tr.get .bad q2 fr) (.int .u32 (.ofNat 4))) fun v0 =>
  call q97 [(Tr.get .bad q0 fr), v0, (Tr.get .bad q3 fr), (Tr.get .bad q4 fr)] h fun v1 h2 =>
  forceG v1 fun v => Tr.setK .bad v q10 fr fun f10 =>
  k f10 h2)
 .ret)
 .skip))))))))))))
 (.seq (.reg fun _ fr h k =>
  forceG (.bool false) fun v => Tr.setK .bad v q10 fr fun f10 =>
  k f10 h)
 .ret)))), resF [.t 10]⟩
theorem g46_ok : Comp Tryz.prog Tryz.f46 5 [10, 13, 14, 15, 18, 26, 36, 44, 52] g46 := ⟨_, [.t 10], rfl, by kernel_rfl, by decide, by kernel_rfl, by kernel_rfl, rfl, rfl⟩
/-- (*pianola/bus.Bus).Next -/
def g47 : GFunc := ⟨1, (.seq (.reg fun _ fr h k =>
  forceG (.int .i64 (.ofNat 0)) fun v => Tr.setK .bad v q2 fr fun f2 =>
  forceG (.bool false) fun v => Tr.setK .bad v q3 f2 fun f3 =>
  k f3 h)
 (.seq (.reg fun call fr h k =>
  obind (pNilck (Tr.get .bad q0 fr)) fun v0 =>
  obind (pFa 1 v0) fun v1 =>
  obind (rLd1 v1 h) fun v2 =>
  call q98 [v2] h fun v3 h4 =>
  obind (pExt 0 v3) fun v4 =>
  obind (pExt 1 v3) fun v5 =>
  forceG v4 fun v => Tr.setK .bad v q2 fr fun f2 =>
  forceG v5 fun v => Tr.setK .bad v q3 f2 fun f3 =>
  k f3 h4)
 .ret)), resF [.t 2, .t 3]⟩
theorem g47_ok : Comp Tryz.prog Tryz.f47 1 [2, 3] g47 := ⟨_, [.t 2, .t 3], rfl, by kernel_rfl, by decide, by kernel_rfl, by kernel_rfl, rfl, rfl⟩
/-- (*pianola/pianolaref15.Bus).Next -/
def g48 : GFunc := ⟨1, (.seq (.reg fun _ fr h k =>
  forceG (.int .i64 (.ofNat 0)) fun v => Tr.setK .bad v q2 fr fun f2 =>
  forceG (.bool false) fun v => Tr.setK .bad v q3 f2 fun f3 =>
  k f3 h)
 (.seq (.seq (.reg fun _ fr h k =>
  obind (pNilck (Tr.get .bad q0 fr)) fun v0 =>
  obind (pFa 1 v0) fun v1 =>
  obind (pFa 0 v1) fun v2 =>
  obind (rLd1 v2 h) fun v3 =>
  obind (pLenS v3) fun v4 =>
  obind (pEql v4 (.int .i64 (.ofNat 0))) fun v5 =>
  forceG v5 fun v => Tr.setK .bad v q10 fr fun f10 =>
  k f10 h)
 (.cond 10 q10 (.seq (.reg fun _ fr h k =>
  forceG (.int .i64 (.ofNat 0)) fun v => Tr.setK .bad v q2 fr fun f2 =>
  forceG (.bool false) fun v => Tr.setK .bad v q3 f2 fun f3 =>
  k f3 h)
 .ret)
 .skip))
 (.seq (.reg fun _ fr h k =>
  obind (pNilck (Tr.get .bad q0 fr)) fun v0 =>
  obind (pFa 1 v0) fun v1 =>
  obind (pFa 0 v1) fun v2 =>
  obind (rLd1 v2 h) fun v3 =>
  obind (pIdxS 3 v3 (.int .i64 (.ofNat 0))) fun v4 =>
  obind (pFa 0 v4) fun v5 =>
  obind (rLd1 v5 h) fun v6 =>
  forceG v6 fun v => Tr.setK .bad v q2 fr fun f2 =>
  forceG (.bool true) fun v => Tr.setK .bad v q3 f2 fun f3 =>
  k f3 h)
 .ret))), resF [.t 2, .t 3]⟩
theorem g48_ok : Comp Tryz.prog Tryz.f48 1 [2, 3, 10] g48 := ⟨_, [.t 2, .t 3], rfl, by kernel_rfl, by decide, by kernel_rfl, by kernel_rfl, rfl, rfl⟩
/-- (*pianola/bus.Bus).Raised -/
def g49 : GFunc := ⟨1, (.seq (.reg fun _ fr h k =>
  forceG (.bool false) fun v => Tr.setK .bad v q2 fr fun f2 =>
  k f2 h)
 (.seq (.reg fun call fr h k =>
  obind (pNilck (Tr.get .bad q0 fr)) fun v0 =>
  obind (pFa 2 v0) fun v1 =>
  obind (rLd1 v1 h) fun v2 =>
  call q99 [v2] h fun v3 h4 =>
  forceG v3 fun v => Tr.setK .bad v q2 fr fun f2 =>
  k f2 h4)
 .ret)), resF [.t 2]⟩
theorem g49_ok : Comp Tryz.prog Tryz.f49 1 [2] g49 := ⟨_, [.t 2], rfl, by kernel_rfl, by decide, by kernel_rfl, by kernel_rfl, rfl, rfl⟩
/-- (*pianola/pianolaref15.Bus).Raised -/
def g50 : GFunc := ⟨1, (.seq (.reg fun _ fr h k =>
  forceG (.bool false) fun v => Tr.setK .bad v q2 fr fun f2 =>
  k f2 h)
 (.seq (.reg fun _ fr h k =>
  obind (pNilck (Tr.get .bad q0 fr)) fun v0 =>
  obind (pFa 23 v0) fun v1 =>
  obind (rLd1 v1 h) fun v2 =>
  obind (pNilck (Tr.get .bad q0 fr)) fun v3 =>
  obind (pFa 24 v3) fun v4 =>
  obind (rLd1 v4 h) fun v5 =>
  obind (pAnd v2 v5) fun v6 =>
  obind (pNeq v6 (.int .u32 (.ofNat 0))) fun v7 =>
  forceG v7 fun v => Tr.setK .bad v q2 fr fun f2 =>
  k f2 h)
 .ret)), resF [.t 2]⟩
theorem g50_ok : Comp Tryz.prog Tryz.f50 1 [2] g50 := ⟨_, [.t 2], rfl, by kernel_rfl, by decide, by kernel_rfl, by kernel_rfl, rfl, rfl⟩
/-- pianola/pianolabook.Same[pianola/api.Event] -/
def g51 : GFunc := ⟨2, (.seq (.reg fun _ fr h k =>
  forceG (.bool false) fun v => Tr.setK .bad v q4 fr fun f4 =>
  k f4 h)
 (.seq (.seq (.reg fun _ fr h k =>
  obind (pLenS (Tr.get .bad q0 fr)) fun v0 =>
  obind (pLenS (Tr.get .bad q1 fr)) fun v1 =>
  obind (pNeq v0 v1) fun v2 =>
  forceG v2 fun v => Tr.setK .bad v q10 fr fun f10 =>
  k f10 h)
 (.cond 10 q10 (.seq (.reg fun _ fr h k =>
  forceG (.bool false) fun v => Tr.setK .bad v q4 fr fun f4 =>
  k f4 h)
 .ret)
 .skip))
 (.seq (.seq (.reg fun _ fr h k =>
  forceG (.int .i64 (.ofNat 0)) fun v => Tr.setK .bad v q5 fr fun f5 =>
  k f5 h)
 (.block 0 (.loop (.seq (.seq (.reg fun _ fr h k =>
  obind (pLenS (Tr.get .bad q0 fr)) fun v0 =>
  obind (pLss (Tr.get .bad q5 fr) v0) fun v1 =>
  forceG v1 fun v => Tr.setK .bad v q14 fr fun f14 =>
  k f14 h)
 (.cond 14 q14 .skip
 (.exit 0)))
 (.seq (.block 1 (.seq (.reg fun _ fr h k =>
  obind (pIdxS 3 (Tr.get .bad q0 fr) (Tr.get .bad q5 fr)) fun v0 =>
  obind (rLdN 3 v0 h) fun v1 =>
  obind (pIdxS 3 (Tr.get .bad q1 fr) (Tr.get .bad q5 fr)) fun v2 =>
  obind (rLdN 3 v2 h) fun v3 =>
  obind (pNeqA [1, 1, 1] v1 v3) fun v4 =>
  forceG v4 fun v => Tr.setK .bad v q25 fr fun f25 =>
  k f25 h)
 (.cond 25 q25 (.seq (.reg fun _ fr h k =>
  forceG (.bool false) fun v => Tr.setK .bad v q4 fr fun f4 =>
  k f4 h)
 .ret)
 .skip)))
 (.reg fun _ fr h k =>
  obind (pAdd (Tr.get .bad q5 fr) (.int .i64 (.ofNat 1))) fun v0 =>
  forceG v0 fun v => Tr.setK .bad v q5 fr fun f5 =>
  k f5 h))))))
 (.seq (.reg fun _ fr h k =>
  forceG (.bool true) fun v => Tr.setK .bad v q4 fr fun f4 =>
  k f4 h)
 .ret)))), resF [.t 4]⟩
theorem g51_ok : Comp Tryz.prog Tryz.f51 2 [4, 5, 10, 14, 25] g51 := ⟨_, [.t 4], rfl, by kernel_rfl, by decide, by kernel_rfl, by kernel_rfl, rfl, rfl⟩
/-- (*pianola/bus.Bus).Events -/
def g52 : GFunc := ⟨1, (.seq (.reg fun _ fr h k =>
  forceG .nils fun v => Tr.setK .bad v q2 fr fun f2 =>
  k f2 h)
 (.seq (.reg fun call fr h k =>
  obind (pNilck (Tr.get .bad q0 fr)) fun v0 =>
  obind (pFa 1 v0) fun v1 =>
  obind (rLd1 v1 h) fun v2 =>
  call q100 [v2] h fun v3 h4 =>
  forceG v3 fun v => Tr.setK .bad v q2 fr fun f2 =>
  k f2 h4)
 .ret)), resF [.t 2]⟩
theorem g52_ok : Comp Tryz.prog Tryz.f52 1 [2] g52 := ⟨_, [.t 2], rfl, by kernel_rfl, by decide, by kernel_rfl, by kernel_rfl, rfl, rfl⟩
/-- (*pianola/bus.Bus).Out -/
def g53 : GFunc := ⟨1, (.seq (.reg fun _ fr h k =>
  forceG .nils fun v => Tr.setK .bad v q2 fr fun f2 =>
  k f2 h)
 (.seq (.reg fun call fr h k =>
  obind (pNilck (Tr.get .bad q0 fr)) fun v0 =>
  obind (pFa 5 v0) fun v1 =>
  obind (rLd1 v1 h) fun v2 =>
  call q101 [v2] h fun v3 h4 =>
  forceG v3 fun v => Tr.setK .bad v q2 fr fun f2 =>
  k f2 h4)
 .ret)), resF [.t 2]⟩
theorem g53_ok : Comp Tryz.prog Tryz.f53 1 [2] g53 := ⟨_, [.t 2], rfl, by kernel_rfl, by decide, by kernel_rfl, by kernel_rfl, rfl, rfl⟩
/-- (*pianola/bus.Bus).Disk -/
def g54 : GFunc := ⟨1, (.seq (.reg fun _ fr h k =>
  forceG .nils fun v => Tr.setK .bad v q2 fr fun f2 =>
  k f2 h)
 (.seq (.reg fun call fr h k =>
  obind (pNilck (Tr.get .bad q0 fr)) fun v0 =>
  obind (pFa 7 v0) fun v1 =>
  obind (rLd1 v1 h) fun v2 =>
  call q102 [v2] h fun v3 h4 =>
  forceG v3 fun v => Tr.setK .bad v q2 fr fun f2 =>
  k f2 h4)
 .ret)), resF [.t 2]⟩
theorem g54_ok : Comp Tryz.prog Tryz.f54 1 [2] g54 := ⟨_, [.t 2], rfl, by kernel_rfl, by decide, by kernel_rfl, by kernel_rfl, rfl, rfl⟩
/-- (*pianola/wheel.Wheel).Take -/
def g55 : GFunc := ⟨2, (.seq (.reg fun _ fr h k =>
  obind2 (nAlloc [.int .i64 (.ofNat 0), .int .i64 (.ofNat 0), .int .i64 (.ofNat 0)] h) fun v0 h1 =>
  forceG v0 fun v => Tr.setK .bad v q4 fr fun f4 =>
  forceG (.bool false) fun v => Tr.setK .bad v q5 f4 fun f5 =>
  k f5 h1)
 (.seq (.seq (.reg fun call fr h k =>
  call q98 [(Tr.get .bad q0 fr)] h fun v0 h1 =>
  obind (pExt 0 v0) fun v1 =>
  obind (pExt 1 v0) fun v2 =>
  forceG v1 fun v => Tr.setK .bad v q6 fr fun f6 =>
  forceG v2 fun v => Tr.setK .bad v q7 f6 fun f7 =>
  k f7 h1)
 (.seq (.reg fun _ fr h k =>
  obind (pNot (Tr.get .bad q7 fr)) fun v0 =>
  guardC v0 false h (fun k => k (Tr.get .bad q6 fr) h) fun v1 h2 =>
  guardC v0 false h2 (fun k => k (Tr.get .bad q1 fr) h2) fun v2 h3 =>
  guardC v0 false h3 (fun k => obind (pGtr v1 v2) fun v => k v h3) fun v3 h4 =>
  obind (pPick v0 (.bool true) v3) fun v4 =>
  forceG v4 fun v => Tr.setK .bad v q20 fr fun f20 =>
  k f20 h4)
 (.cond 20 q20 (.seq (.reg fun _ fr h k =>
  obind (pBuild [.int .i64 (.ofNat 0), .int .i64 (.ofNat 0), .int .i64 (.ofNat 0)] []) fun v0 =>
  obind (wStN 3 (Tr.get .bad q4 fr) v0 h) fun h2 =>
  forceG (.bool false) fun v => Tr.setK .bad v q5 fr fun f5 =>
  k f5 h2)
 .ret)
 .skip)))
 (.seq (.reg fun _ fr h k =>
  obind (pNilck (Tr.get .bad q0 fr)) fun v0 =>
  obind (pFa 0 v0) fun v1 =>
  obind (rLd1 v1 h) fun v2 =>
  obind (pIdxS 3 v2 (.int .i64 (.ofNat 0))) fun v3 =>
  obind (rLdN 3 v3 h) fun v4 =>
  obind2 (nAlloc [.int .i64 (.ofNat 0), .int .i64 (.ofNat 0), .int .i64 (.ofNat 0)] h) fun v5 h6 =>
  obind (wStN 3 v5 v4 h6) fun h7 =>
  forceG v5 fun v => Tr.setK .bad v q8 fr fun f8 =>
  k f8 h7)
 (.seq (.reg fun call fr h k =>
  obind (pNilck (Tr.get .bad q0 fr)) fun v0 =>
  obind (pFa 0 v0) fun v1 =>
  obind (rLd1 v1 h) fun v2 =>
  call q103 [v2, (.int .i64 (.ofNat 0)), (.int .i64 (.ofNat 1))] h fun v3 h4 =>
  obind (pNilck (Tr.get .bad q0 fr)) fun v4 =>
  obind (pFa 0 v4) fun v5 =>
  obind (wSt1 v5 v3 h4) fun h7 =>
  k fr h7)
 (.seq (.reg fun _ fr h k =>
  obind (rLdN 3 (Tr.get .bad q8 fr) h) fun v0 =>
  obind (wStN 3 (Tr.get .bad q4 fr) v0 h) fun h2 =>
  forceG (.bool true) fun v => Tr.setK .bad v q5 fr fun f5 =>
  k f5 h2)
 .ret))))), resF [.cN 4 3, .t 5]⟩
theorem g55_ok : Comp Tryz.prog Tryz.f55 2 [4, 5, 6, 7, 8, 20] g55 := ⟨_, [.cN 4 3, .t 5], rfl, by kernel_rfl, by decide, by kernel_rfl, by kernel_rfl, rfl, rfl⟩
/-- (*pianola/bus.Bus).fire -/
def g56 : GFunc := ⟨2, (.seq (.reg fun _ fr h k =>
  obind2 (nBox (Tr.get .bad q1 fr) h) fun v0 h1 =>
  forceG v0 fun v => Tr.setK .bad v q3 fr fun f3 =>
  k f3 h1)
 (.seq (.reg fun _ fr h k =>
  obind (pFa 1 (Tr.get .bad q3 fr)) fun v0 =>
  obind (rLd1 v0 h) fun v1 =>
  forceG v1 fun v => Tr.setK .bad v q5 fr fun f5 =>
  k f5 h)
 (.block 0 (.seq (.reg fun _ fr h k =>
  obind (pEql (Tr.get .bad q5 fr) (.int .i64 (.ofNat 1))) fun v0 =>
  forceG v0 fun v => Tr.setK .bad v q6 fr fun f6 =>
  k f6 h)
 (.cond 6 q6 (.reg fun call fr h k =>
  obind (pNilck (Tr.get .bad q0 fr)) fun v0 =>
  obind (pFa 3 v0) fun v1 =>
  obind (rLd1 v1 h) fun v2 =>
  obind (pFa 0 (Tr.get .bad q3 fr)) fun v3 =>
  obind (rLd1 v3 h) fun v4 =>
  call q104 [v2, v4] h fun _ h6 =>
  k fr h6)
 (.seq (.reg fun _ fr h k =>
  obind (pEql (Tr.get .bad q5 fr) (.int .i64 (.ofNat 2))) fun v0 =>
  forceG v0 fun v => Tr.setK .bad v q15 fr fun f15 =>
  k f15 h)
 (.cond 15 q15 (.reg fun call fr h k =>
  obind (pNilck (Tr.get .bad q0 fr)) fun v0 =>
  obind (pFa 4 v0) fun v1 =>
  obind (rLd1 v1 h) fun v2 =>
  obind (pFa 0 (Tr.get .bad q3 fr)) fun v3 =>
  obind (rLd1 v3 h) fun v4 =>
  call q104 [v2, v4] h fun _ h6 =>
  k fr h6)
 (.seq (.reg fun _ fr h k =>
  obind (pEql (Tr.get .bad q5 fr) (.int .i64 (.ofNat 3))) fun v0 =>
  forceG v0 fun v => Tr.setK .bad v q24 fr fun f24 =>
  k f24 h)
 (.cond 24 q24 (.reg fun call fr h k =>
  obind (pNilck (Tr.get .bad q0 fr)) fun v0 =>
  obind (pFa 5 v0) fun v1 =>
  obind (rLd1 v1 h) fun v2 =>
  obind (pFa 0 (Tr.get .bad q3 fr)) fun v3 =>
  obind (rLd1 v3 h) fun v4 =>
  call q105 [v2, v4] h fun _ h6 =>
  k fr h6)
 (.seq (.reg fun _ fr h k =>
  obind (pEql (Tr.get .bad q5 fr) (.int .i64 (.ofNat 4))) fun v0 =>
  forceG v0 fun v => Tr.setK .bad v q33 fr fun f33 =>
  k f33 h)
 (.cond 33 q33 (.reg fun call fr h k =>
  obind (pNilck (Tr.get .bad q0 fr)) fun v0 =>
  obind (pFa 6 v0) fun v1 =>
  obind (rLd1 v1 h) fun v2 =>
  obind (pFa 0 (Tr.get .bad q3 fr)) fun v3 =>
  obind (rLd1 v3 h) fun v4 =>
  call q106 [v2, v4] h fun _ h6 =>
  k fr h6)
 (.seq (.reg fun _ fr h k =>
  obind (pEql (Tr.get .bad q5 fr) (.int .i64 (.ofNat 5))) fun v0 =>
  forceG v0 fun v => Tr.setK .bad v q42 fr fun f42 =>
  k f42 h)
 (.cond 42 q42 (.reg fun call fr h k =>
  obind (pNilck (Tr.get .bad q0 fr)) fun v0 =>
  obind (pFa 7 v0) fun v1 =>
  obind (rLd1 v1 h) fun v2 =>
  obind (pFa 0 (Tr.get .bad q3 fr)) fun v3 =>
  obind (rLd1 v3 h) fun v4 =>
  call q107 [v2, v4] h fun _ h6 =>
  k fr h6)
 .skip))))))))))))), resF []⟩
theorem g56_ok : Comp Tryz.prog Tryz.f56 2 [3, 5, 6, 15, 24, 33, 42] g56 := ⟨_, [], rfl, by kernel_rfl, by decide, by kernel_rfl, by kernel_rfl, rfl, rfl⟩
/-- (*pianola/pianolaref9.Wheel).Take -/
def g57 : GFunc := ⟨2, (.seq (.reg fun _ fr h k =>
  obind2 (nAlloc [.int .i64 (.ofNat 0), .int .i64 (.ofNat 0), .int .i64 (.ofNat 0)] h) fun v0 h1 =>
  forceG v0 fun v => Tr.setK .bad v q4 fr fun f4 =>
  forceG (.bool false) fun v => Tr.setK .bad v q5 f4 fun f5 =>
  k f5 h1)
 (.seq (.seq (.reg fun _ fr h k =>
  obind (pNilck (Tr.get .bad q0 fr)) fun v0 =>
  obind (pFa 0 v0) fun v1 =>
  obind (rLd1 v1 h) fun v2 =>
  obind (pLenS v2) fun v3 =>
  obind (pEql v3 (.int .i64 (.ofNat 0))) fun v4 =>
  guardC v4 false h (fun k => k (Tr.get .bad q0 fr) h) fun v5 h6 =>
  guardC v4 false h6 (fun k => obind (pNilck v5) fun v => k v h6) fun v6 h7 =>
  guardC v4 false h7 (fun k => obind (pFa 0 v6) fun v => k v h7) fun v7 h8 =>
  guardC v4 false h8 (fun k => obind (rLd1 v7 h8) fun v => k v h8) fun v8 h9 =>
  guardC v4 false h9 (fun k => obind (pIdxS 3 v8 (.int .i64 (.ofNat 0))) fun v => k v h9) fun v9 h10 =>
  guardC v4 false h10 (fun k => obind (pFa 0 v9) fun v => k v h10) fun v10 h11 =>
  guardC v4 false h11 (fun k => obind (rLd1 v10 h11) fun v => k v h11) fun v11 h12 =>
  guardC v4 false h12 (fun k => k (Tr.get .bad q1 fr) h12) fun v12 h13 =>
  guardC v4 false h13 (fun k => obind (pGtr v11 v12) fun v => k v h13) fun v13 h14 =>
  obind (pPick v4 (.bool true) v13) fun v14 =>
  forceG v14 fun v => Tr.setK .bad v q23 fr fun f23 =>
  k f23 h14)
 (.cond 23 q23 (.seq (.reg fun _ fr h k =>
  obind (pBuild [.int .i64 (.ofNat 0), .int .i64 (.ofNat 0), .int .i64 (.ofNat 0)] []) fun v0 =>
  obind (wStN 3 (Tr.get .bad q4 fr) v0 h) fun h2 =>
  forceG (.bool false) fun v => Tr.setK .bad v q5 fr fun f5 =>
  k f5 h2)
 .ret)
 .skip))
 (.seq (.reg fun _ fr h k =>
  obind (pNilck (Tr.get .bad q0 fr)) fun v0 =>
  obind (pFa 0 v0) fun v1 =>
  obind (rLd1 v1 h) fun v2 =>
  obind (pIdxS 3 v2 (.int .i64 (.ofNat 0))) fun v3 =>
  obind (rLdN 3 v3 h) fun v4 =>
  obind2 (nAlloc [.int .i64 (.ofNat 0), .int .i64 (.ofNat 0), .int .i64 (.ofNat 0)] h) fun v5 h6 =>
  obind (wStN 3 v5 v4 h6) fun h7 =>
  forceG v5 fun v => Tr.setK .bad v q6 fr fun f6 =>
  k f6 h7)
 (.seq (.reg fun _ fr h k =>
  obind2 (nBuildS (rep [.int .i64 (.ofNat 0), .int .i64 (.ofNat 0), .int .i64 (.ofNat 0)] 0) 0 3 none [] h) fun v0 h1 =>
  obind (pNilck (Tr.get .bad q0 fr)) fun v1 =>
  obind (pFa 0 v1) fun v2 =>
  obind (rLd1 v2 h1) fun v3 =>
  obind (pSlS 3 (some (.int .i64 (.ofNat 1))) none none v3) fun v4 =>
  obind2 (nAppend 3 24 none v0 v4 h1) fun v5 h6 =>
  obind (pNilck (Tr.get .bad q0 fr)) fun v6 =>
  obind (pFa 0 v6) fun v7 =>
  obind (wSt1 v7 v5 h6) fun h9 =>
  k fr h9)
 (.seq (.reg fun _ fr h k =>
  obind (rLdN 3 (Tr.get .bad q6 fr) h) fun v0 =>
  obind (wStN 3 (Tr.get .bad q4 fr) v0 h) fun h2 =>
  forceG (.bool true) fun v => Tr.setK .bad v q5 fr fun f5 =>
  k f5 h2)
 .ret))))), resF [.cN 4 3, .t 5]⟩
theorem g57_ok : Comp Tryz.prog Tryz.f57 2 [4, 5, 6, 23] g57 := ⟨_, [.cN 4 3, .t 5], rfl, by kernel_rfl, by decide, by kernel_rfl, by kernel_rfl, rfl, rfl⟩
/-- (*pianola/pianolaref15.Bus).B1 -/
def g58 : GFunc := ⟨2, (.seq (.reg fun _ fr h k =>
  obind2 (nBox (Tr.get .bad q1 fr) h) fun v0 h1 =>
  forceG v0 fun v => Tr.setK .bad v q3 fr fun f3 =>
  k f3 h1)
 (.seq (.reg fun _ fr h k =>
  obind (pFa 1 (Tr.get .bad q3 fr)) fun v0 =>
  obind (rLd1 v0 h) fun v1 =>
  forceG v1 fun v => Tr.setK .bad v q6 fr fun f6 =>
  k f6 h)
 (.block 0 (.seq (.seq (.reg fun _ fr h k =>
  obind (pEql (Tr.get .bad q6 fr) (.int .i64 (.ofNat 1))) fun v0 =>
  forceG v0 fun v => Tr.setK .bad v q7 fr fun f7 =>
  k f7 h)
 (.cond 7 q7 .skip
 (.reg fun _ fr h k =>
  obind (pEql (Tr.get .bad q6 fr) (.int .i64 (.ofNat 2))) fun v0 =>
  forceG v0 fun v => Tr.setK .bad v q7 fr fun f7 =>
  k f7 h)))
 (.cond 7 q7 (.seq (.reg fun _ fr h k =>
  obind (pFa 1 (Tr.get .bad q3 fr)) fun v0 =>
  obind (rLd1 v0 h) fun v1 =>
  obind (pSub v1 (.int .i64 (.ofNat 1))) fun v2 =>
  obind (pNilck (Tr.get .bad q0 fr)) fun v3 =>
  obind (pFa 3 v3) fun v4 =>
  obind (pIdxA 2 3 v4 v2) fun v5 =>
  forceG v5 fun v => Tr.setK .bad v q4 fr fun f4 =>
  k f4 h)
 (.seq (.reg fun _ fr h k =>
  obind (pNilck (Tr.get .bad q4 fr)) fun v0 =>
  obind (pFa 2 v0) fun v1 =>
  obind (wSt1 v1 (.int .u32 (.ofNat 1)) h) fun h3 =>
  k fr h3)
 (.seq (.reg fun _ fr h k =>
  obind (pNilck (Tr.get .bad q4 fr)) fun v0 =>
  obind (pFa 0 v0) fun v1 =>
  obind (rLd1 v1 h) fun v2 =>
  obind (pAnd v2 (.int .u32 (.ofNat 2))) fun v3 =>
  obind (pNeq v3 (.int .u32 (.ofNat 0))) fun v4 =>
  forceG v4 fun v => Tr.setK .bad v q25 fr fun f25 =>
  k f25 h)
 (.cond 25 q25 (.reg fun call fr h k =>
  obind (pNilck (Tr.get .bad q0 fr)) fun v0 =>
  obind (pFa 1 v0) fun v1 =>
  obind (pFa 1 (Tr.get .bad q3 fr)) fun v2 =>
  obind (rLd1 v2 h) fun v3 =>
  obind (pFa 0 (Tr.get .bad q3 fr)) fun v4 =>
  obind (rLd1 v4 h) fun v5 =>
  obind (pNilck (Tr.get .bad q4 fr)) fun v6 =>
  obind (pFa 1 v6) fun v7 =>
  obind (rLd1 v7 h) fun v8 =>
  obind (pConv .i64 v8) fun v9 =>
  obind (pMax v9 (.int .i64 (.ofNat 1))) fun v10 =>
  obind (pAdd v5 v10) fun v11 =>
  call q108 [v1, v3, v11] h fun _ h13 =>
  k fr h13)
 (.reg fun _ fr h k =>
  obind (pNilck (Tr.get .bad q4 fr)) fun v0 =>
  obind (pFa 0 v0) fun v1 =>
  obind (rLd1 v1 h) fun v2 =>
  obind (pAndNot v2 (.int .u32 (.ofNat 1))) fun v3 =>
  obind (pNilck (Tr.get .bad q4 fr)) fun v4 =>
  obind (pFa 0 v4) fun v5 =>
  obind (wSt1 v5 v3 h) fun h7 =>
  k fr h7)))))
 (.seq (.reg fun _ fr h k =>
  obind (pEql (Tr.get .bad q6 fr) (.int .i64 (.ofNat 3))) fun v0 =>
  forceG v0 fun v => Tr.setK .bad v q49 fr fun f49 =>
  k f49 h)
 (.cond 49 q49 (.seq (.seq (.reg fun _ fr h k =>
  obind (pNilck (Tr.get .bad q0 fr)) fun v0 =>
  obind (pFa 9 v0) fun v1 =>
  obind (pFa 1 v1) fun v2 =>
  obind (rLd1 v2 h) fun v3 =>
  obind (pLenS v3) fun v4 =>
  obind (pGtr v4 (.int .i64 (.ofNat 0))) fun v5 =>
  forceG v5 fun v => Tr.setK .bad v q57 fr fun f57 =>
  k f57 h)
 (.cond 57 q57 (.seq (.seq (.reg fun _ fr h k =>
  obind (pNilck (Tr.get .bad q0 fr)) fun v0 =>
  obind (pFa 9 v0) fun v1 =>
  obind (pFa 4 v1) fun v2 =>
  obind (rLd1 v2 h) fun v3 =>
  obind (pLenS v3) fun v4 =>
  obind (pLss v4 (.int .i64 (.ofNat 65536))) fun v5 =>
  forceG v5 fun v => Tr.setK .bad v q64 fr fun f64 =>
  k f64 h)
 (.cond 64 q64 (.reg fun _ fr h k =>
  obind (pNilck (Tr.get .bad q0 fr)) fun v0 =>
  obind (pFa 9 v0) fun v1 =>
  obind (pFa 4 v1) fun v2 =>
  obind (rLd1 v2 h) fun v3 =>
  obind (pNilck (Tr.get .bad q0 fr)) fun v4 =>
  obind (pFa 9 v4) fun v5 =>
  obind (pFa 1 v5) fun v6 =>
  obind (rLd1 v6 h) fun v7 =>
  obind (pIdxS 1 v7 (.int .i64 (.ofNat 0))) fun v8 =>
  obind (rLd1 v8 h) fun v9 =>
  obind2 (nBuildS (rep [.int .u8 (.ofNat 0)] 1) 1 1 (some (.u8, 8)) [(0, 1, v9)] h) fun v10 h11 =>
  obind2 (nAppend 1 1 (some (.u8, 8)) v3 v10 h11) fun v11 h12 =>
  obind (pNilck (Tr.get .bad q0 fr)) fun v12 =>
  obind (pFa 9 v12) fun v13 =>
  obind (pFa 4 v13) fun v14 =>
  obind (wSt1 v14 v11 h12) fun h16 =>
  k fr h16)
 .skip))
 (.reg fun _ fr h k =>
  obind2 (nBuildS (rep [.int .u8 (.ofNat 0)] 0) 0 1 (some (.u8, 8)) [] h) fun v0 h1 =>
  obind (pNilck (Tr.get .bad q0 fr)) fun v1 =>
  obind (pFa 9 v1) fun v2 =>
  obind (pFa 1 v2) fun v3 =>
  obind (rLd1 v3 h1) fun v4 =>
  obind (pSlS 1 (some (.int .i64 (.ofNat 1))) none none v4) fun v5 =>
  obind2 (nAppend 1 1 (some (.u8, 8)) v0 v5 h1) fun v6 h7 =>
  obind (pNilck (Tr.get .bad q0 fr)) fun v7 =>
  obind (pFa 9 v7) fun v8 =>
  obind (pFa 1 v8) fun v9 =>
  obind (wSt1 v9 v6 h7) fun h11 =>
  k fr h11))
 .skip))
 (.seq (.reg fun _ fr h k =>
  obind (pNilck (Tr.get .bad q0 fr)) fun v0 =>
  obind (pFa 9 v0) fun v1 =>
  obind (pFa 1 v1) fun v2 =>
  obind (rLd1 v2 h) fun v3 =>
  obind (pLenS v3) fun v4 =>
  obind (pGtr v4 (.int .i64 (.ofNat 0))) fun v5 =>
  forceG v5 fun v => Tr.setK .bad v q101 fr fun f101 =>
  k f101 h)
 (.cond 101 q101 (.reg fun call fr h k =>
  obind (pNilck (Tr.get .bad q0 fr)) fun v0 =>
  obind (pFa 1 v0) fun v1 =>
  obind (pFa 0 (Tr.get .bad q3 fr)) fun v2 =>
  obind (rLd1 v2 h) fun v3 =>
  obind (pAdd v3 (.int .i64 (.ofNat 8))) fun v4 =>
  call q108 [v1, (.int .i64 (.ofNat 3)), v4] h fun _ h6 =>
  k fr h6)
 .skip)))
 (.seq (.reg fun _ fr h k =>
  obind (pEql (Tr.get .bad q6 fr) (.int .i64 (.ofNat 4))) fun v0 =>
  forceG v0 fun v => Tr.setK .bad v q109 fr fun f109 =>
  k f109 h)
 (.cond 109 q109 (.reg fun call fr h k =>
  call q109 [(Tr.get .bad q0 fr)] h fun _ h1 =>
  k fr h1)
 (.seq (.reg fun _ fr h k =>
  obind (pEql (Tr.get .bad q6 fr) (.int .i64 (.ofNat 5))) fun v0 =>
  forceG v0 fun v => Tr.setK .bad v q113 fr fun f113 =>
  k f113 h)
 (.cond 113 q113 (.reg fun call fr h k =>
  call q110 [(Tr.get .bad q0 fr)] h fun _ h1 =>
  k fr h1)
 .skip))))))))))), resF []⟩
theorem g58_ok : Comp Tryz.prog Tryz.f58 2 [3, 4, 6, 7, 25, 49, 57, 64, 101, 109, 113] g58 := ⟨_, [], rfl, by kernel_rfl, by decide, by kernel_rfl, by kernel_rfl, rfl, rfl⟩
/-- (*pianola/bus.Bus).Ram -/
def g59 : GFunc := ⟨1, (.seq (.reg fun _ fr h k =>
  forceG .nilp fun v => Tr.setK .bad v q2 fr fun f2 =>
  k f2 h)
 (.seq (.reg fun _ fr h k =>
  obind (pNilck (Tr.get .bad q0 fr)) fun v0 =>
  obind (pFa 0 v0) fun v1 =>
  obind (rLd1 v1 h) fun v2 =>
  forceG v2 fun v => Tr.setK .bad v q2 fr fun f2 =>
  k f2 h)
 .ret)), resF [.t 2]⟩
theorem g59_ok : Comp Tryz.prog Tryz.f59 1 [2] g59 := ⟨_, [.t 2], rfl, by kernel_rfl, by decide, by kernel_rfl, by kernel_rfl, rfl, rfl⟩
/-- (*pianola/pianolaref2.Ram).Put -/
def g60 : GFunc := ⟨3, (.seq (.reg fun _ fr h k =>
  forceG (.bool false) fun v => Tr.setK .bad v q6 fr fun f6 =>
  k f6 h)
 (.seq (.seq (.reg fun call fr h k =>
  obind (pLenS (Tr.get .bad q2 fr)) fun v0 =>
  call q85 [(Tr.get .bad q0 fr), (Tr.get .bad q1 fr), v0] h fun v1 h2 =>
  obind (pNot v1) fun v2 =>
  forceG v2 fun v => Tr.setK .bad v q12 fr fun f12 =>
  k f12 h2)
 (.cond 12 q12 (.seq (.reg fun _ fr h k =>
  forceG (.bool false) fun v => Tr.setK .bad v q6 fr fun f6 =>
  k f6 h)
 .ret)
 .skip))
 (.seq (.reg fun _ fr h k =>
  obind (pNilck (Tr.get .bad q0 fr)) fun v0 =>
  obind (pFa 0 v0) fun v1 =>
  obind (rLd1 v1 h) fun v2 =>
  obind (pSlS 1 (some (Tr.get .bad q1 fr)) none none v2) fun v3 =>
  obind2 (nCopy 1 v3 (Tr.get .bad q2 fr) h) fun _ h5 =>
  k fr h5)
 (.seq (.reg fun call fr h k =>
  obind (pLenS (Tr.get .bad q2 fr)) fun v0 =>
  call q93 [(Tr.get .bad q0 fr), (Tr.get .bad q1 fr), v0] h fun _ h2 =>
  k fr h2)
 (.seq (.reg fun _ fr h k =>
  forceG (.bool true) fun v => Tr.setK .bad v q6 fr fun f6 =>
  k f6 h)
 .ret))))), resF [.t 6]⟩
theorem g60_ok : Comp Tryz.prog Tryz.f60 3 [6, 12] g60 := ⟨_, [.t 6], rfl, by kernel_rfl, by decide, by kernel_rfl, by kernel_rfl, rfl, rfl⟩
/-- (*pianola/ram.Ram).even -/
def g75 : GFunc := ⟨3, (.seq (.reg fun _ fr h k =>
  forceG (.bool false) fun v => Tr.setK .bad v q6 fr fun f6 =>
  k f6 h)
 (.seq (.reg fun call fr h k =>
  obind (pEql (Tr.get .bad q2 fr) (.int .i64 (.ofNat 1))) fun v0 =>
  guardC v0 false h (fun k => k (Tr.get .bad q2 fr) h) fun v1 h2 =>
  guardC v0 false h2 (fun k => obind (pEql v1 (.int .i64 (.ofNat 2))) fun v => k v h2) fun v2 h3 =>
  obind (pPick v0 (.bool true) v2) fun v3 =>
  guardC v3 false h3 (fun k => k (Tr.get .bad q2 fr) h3) fun v4 h5 =>
  guardC v3 false h5 (fun k => obind (pEql v4 (.int .i64 (.ofNat 4))) fun v => k v h5) fun v5 h6 =>
  obind (pPick v3 (.bool true) v5) fun v6 =>
  guardC v6 true h6 (fun k => k (Tr.get .bad q1 fr) h6) fun v7 h8 =>
  guardC v6 true h8 (fun k => k (Tr.get .bad q2 fr) h8) fun v8 h9 =>
  guardC v6 true h9 (fun k => obind (pConv .u32 v8) fun v => k v h9) fun v9 h10 =>
  guardC v6 true h10 (fun k => obind (pRem v7 v9) fun v => k v h10) fun v10 h11 =>
  guardC v6 true h11 (fun k => obind (pEql v10 (.int .u32 (.ofNat 0))) fun v => k v h11) fun v11 h12 =>
  obind (pPick v6 v11 (.bool false)) fun v12 =>
  guardC v12 true h12 (fun k => k (Tr.get .bad q0 fr) h12) fun v13 h14 =>
  guardC v12 true h14 (fun k => k (Tr.get .bad q1 fr) h14) fun v14 h15 =>
  guardC v12 true h15 (fun k => k (Tr.get .bad q2 fr) h15) fun v15 h16 =>
  guardC v12 true h16 (fun k => call q77 [v13, v14, v15] h16 k) fun v16 h17 =>
  obind (pPick v12 v16 (.bool false)) fun v17 =>
  forceG v17 fun v => Tr.setK .bad v q6 fr fun f6 =>
  k f6 h17)
 .ret)), resF [.t 6]⟩
theorem g75_ok : Comp Tryz.prog Tryz.f75 3 [6] g75 := ⟨_, [.t 6], rfl, by kernel_rfl, by decide, by kernel_rfl, by kernel_rfl, rfl, rfl⟩
/-- (*pianola/ram.Ram).touch -/
def g76 : GFunc := ⟨3, (.seq (.seq (.reg fun _ fr h k =>
  obind (pLss (Tr.get .bad q2 fr) (.int .i64 (.ofNat 1))) fun v0 =>
  forceG v0 fun v => Tr.setK .bad v q8 fr fun f8 =>
  k f8 h)
 (.cond 8 q8 .ret
 .skip))
 (.seq (.reg fun _ fr h k =>
  obind (pConv .i64 (Tr.get .bad q1 fr)) fun v0 =>
  obind (pQuo v0 (.int .i64 (.ofNat 1024))) fun v1 =>
  forceG v1 fun v => Tr.setK .bad v q6 fr fun f6 =>
  k f6 h)
 (.block 0 (.loop (.seq (.seq (.reg fun _ fr h k =>
  obind (pConv .i64 (Tr.get .bad q1 fr)) fun v0 =>
  obind (pAdd v0 (Tr.get .bad q2 fr)) fun v1 =>
  obind (pSub v1 (.int .i64 (.ofNat 1))) fun v2 =>
  obind (pQuo v2 (.int .i64 (.ofNat 1024))) fun v3 =>
  obind (pLeq (Tr.get .bad q6 fr) v3) fun v4 =>
  forceG v4 fun v => Tr.setK .bad v q19 fr fun f19 =>
  k f19 h)
 (.cond 19 q19 .skip
 (.exit 0)))
 (.seq (.block 1 (.reg fun _ fr h k =>
  obind (pNilck (Tr.get .bad q0 fr)) fun v0 =>
  obind (pFa 2 v0) fun v1 =>
  obind (rLd1 v1 h) fun v2 =>
  obind (pNilck (Tr.get .bad q0 fr)) fun v3 =>
  obind (pFa 2 v3) fun v4 =>
  obind (rLd1 v4 h) fun v5 =>
  obind (pIdxS 1 v5 (Tr.get .bad q6 fr)) fun v6 =>
  obind (rLd1 v6 h) fun v7 =>
  guardC v7 false h (fun k => k (Tr.get .bad q0 fr) h) fun v8 h9 =>
  guardC v7 false h9 (fun k => obind (pNilck v8) fun v => k v h9) fun v9 h10 =>
  guardC v7 false h10 (fun k => obind (pFa 1 v9) fun v => k v h10) fun v10 h11 =>
  guardC v7 false h11 (fun k => obind (rLd1 v10 h11) fun v => k v h11) fun v11 h12 =>
  guardC v7 false h12 (fun k => k (Tr.get .bad q6 fr) h12) fun v12 h13 =>
  guardC v7 false h13 (fun k => obind (pIdxS 1 v11 v12) fun v => k v h13) fun v13 h14 =>
  guardC v7 false h14 (fun k => obind (rLd1 v13 h14) fun v => k v h14) fun v14 h15 =>
  obind (pPick v7 (.bool true) v14) fun v15 =>
  obind (pIdxS 1 v2 (Tr.get .bad q6 fr)) fun v16 =>
  obind (wSt1 v16 v15 h15) fun h18 =>
  k fr h18))
 (.reg fun _ fr h k =>
  obind (pAdd (Tr.get .bad q6 fr) (.int .i64 (.ofNat 1))) fun v0 =>
  forceG v0 fun v => Tr.setK .bad v q6 fr fun f6 =>
  k f6 h))))))), resF []⟩
theorem g76_ok : Comp Tryz.prog Tryz.f76 3 [6, 8, 19] g76 := ⟨_, [], rfl, by kernel_rfl, by decide, by kernel_rfl, by kernel_rfl, rfl, rfl⟩
/-- (*pianola/ram.Ram).there -/
def g77 : GFunc := ⟨3, (.seq (.reg fun _ fr h k =>
  forceG (.bool false) fun v => Tr.setK .bad v q6 fr fun f6 =>
  k f6 h)
 (.seq (.reg fun _ fr h k =>
  obind (pGeq (Tr.get .bad q2 fr) (.int .i64 (.ofNat 0))) fun v0 =>
  guardC v0 true h (fun k => k (Tr.get .bad q1 fr) h) fun v1 h2 =>
  guardC v0 true h2 (fun k => obind (pConv .i64 v1) fun v => k v h2) fun v2 h3 =>
  guardC v0 true h3 (fun k => k (Tr.get .bad q0 fr) h3) fun v3 h4 =>
  guardC v0 true h4 (fun k => obind (pNilck v3) fun v => k v h4) fun v4 h5 =>
  guardC v0 true h5 (fun k => obind (pFa 0 v4) fun v => k v h5) fun v5 h6 =>
  guardC v0 true h6 (fun k => obind (rLd1 v5 h6) fun v => k v h6) fun v6 h7 =>
  guardC v0 true h7 (fun k => obind (pLenS v6) fun v => k v h7) fun v7 h8 =>
  guardC v0 true h8 (fun k => obind (pLeq v2 v7) fun v => k v h8) fun v8 h9 =>
  obind (pPick v0 v8 (.bool false)) fun v9 =>
  guardC v9 true h9 (fun k => k (Tr.get .bad q2 fr) h9) fun v10 h11 =>
  guardC v9 true h11 (fun k => k (Tr.get .bad q0 fr) h11) fun v11 h12 =>
  guardC v9 true h12 (fun k => obind (pNilck v11) fun v => k v h12) fun v12 h13 =>
  guardC v9 true h13 (fun k => obind (pFa 0 v12) fun v => k v h13) fun v13 h14 =>
  guardC v9 true h14 (fun k => obind (rLd1 v13 h14) fun v => k v h14) fun v14 h15 =>
  guardC v9 true h15 (fun k => obind (pLenS v14) fun v => k v h15) fun v15 h16 =>
  guardC v9 true h16 (fun k => k (Tr.get .bad q1 fr) h16) fun v16 h17 =>
  guardC v9 true h17 (fun k => obind (pConv .i64 v16) fun v => k v h17) fun v17 h18 =>
  guardC v9 true h18 (fun k => obind (pSub v15 v17) fun v => k v h18) fun v18 h19 =>
  guardC v9 true h19 (fun k => obind (pLeq v10 v18) fun v => k v h19) fun v19 h20 =>
  obind (pPick v9 v19 (.bool false)) fun v20 =>
  forceG v20 fun v => Tr.setK .bad v q6 fr fun f6 =>
  k f6 h20)
 .ret)), resF [.t 6]⟩
theorem g77_ok : Comp Tryz.prog Tryz.f77 3 [6] g77 := ⟨_, [.t 6], rfl, by kernel_rfl, by decide, by kernel_rfl, by kernel_rfl, rfl, rfl⟩
/-- (*pianola/lines.Lines).Read -/
def g78 : GFunc := ⟨3, (.seq (.reg fun _ fr h k =>
  forceG (.int .u32 (.ofNat 0)) fun v => Tr.setK .bad v q6 fr fun f6 =>
  forceG (.bool false) fun v => Tr.setK .bad v q7 f6 fun f7 =>
  k f7 h)
 (.seq (.seq (.reg fun _ fr h k =>
  forceG (Tr.get .bad q1 fr) fun v => Tr.setK .bad v q8 fr fun f8 =>
  k f8 h)
 (.block 0 (.seq (.reg fun _ fr h k =>
  obind (pEql (Tr.get .bad q8 fr) (.int .u32 (.ofNat 0))) fun v0 =>
  forceG v0 fun v => Tr.setK .bad v q9 fr fun f9 =>
  k f9 h)
 (.cond 9 q9 (.seq (.reg fun _ fr h k =>
  obind (pNilck (Tr.get .bad q0 fr)) fun v0 =>
  obind (pFa 0 v0) fun v1 =>
  obind (rLd1 v1 h) fun v2 =>
  forceG v2 fun v => Tr.setK .bad v q6 fr fun f6 =>
  forceG (.bool true) fun v => Tr.setK .bad v q7 f6 fun f7 =>
  k f7 h)
 .ret)
 (.seq (.reg fun _ fr h k =>
  obind (pEql (Tr.get .bad q8 fr) (.int .u32 (.ofNat 4))) fun v0 =>
  forceG v0 fun v => Tr.setK .bad v q15 fr fun f15 =>
  k f15 h)
 (.cond 15 q15 (.seq (.reg fun _ fr h k =>
  obind (pNilck (Tr.get .bad q0 fr)) fun v0 =>
  obind (pFa 1 v0) fun v1 =>
  obind (rLd1 v1 h) fun v2 =>
  forceG v2 fun v => Tr.setK .bad v q6 fr fun f6 =>
  forceG (.bool true) fun v => Tr.setK .bad v q7 f6 fun f7 =>
  k f7 h)
 .ret)
 (.seq (.reg fun _ fr h k =>
  obind (pEql (Tr.get .bad q8 fr) (.int .u32 (.ofNat 8))) fun v0 =>
  forceG v0 fun v => Tr.setK .bad v q21 fr fun f21 =>
  k f21 h)
 (.cond 21 q21 (.seq (.reg fun _ fr h k =>
  obind (pConv .u32 (Tr.get .bad q2 fr)) fun v0 =>
  forceG v0 fun v => Tr.setK .bad v q6 fr fun f6 =>
  forceG (.bool true) fun v => Tr.setK .bad v q7 f6 fun f7 =>
  k f7 h)
 .ret)
 (.seq (.reg fun _ fr h k =>
  obind (pEql (Tr.get .bad q8 fr) (.int .u32 (.ofNat 12))) fun v0 =>
  forceG v0 fun v => Tr.setK .bad v q25 fr fun f25 =>
  k f25 h)
 (.cond 25 q25 (.seq (.reg fun _ fr h k =>
  obind (pShr (Tr.get .bad q2 fr) (.int .u64 (.ofNat 32))) fun v0 =>
  obind (pConv .u32 v0) fun v1 =>
  forceG v1 fun v => Tr.setK .bad v q6 fr fun f6 =>
  forceG (.bool true) fun v => Tr.setK .bad v q7 f6 fun f7 =>
  k f7 h)
 .ret)
 .skip))))))))))
 (.seq (.reg fun _ fr h k =>
  forceG (.int .u32 (.ofNat 0)) fun v => Tr.setK .bad v q6 fr fun f6 =>
  forceG (.bool false) fun v => Tr.setK .bad v q7 f6 fun f7 =>
  k f7 h)
 .ret))), resF [.t 6, .t 7]⟩
theorem g78_ok : Comp Tryz.prog Tryz.f78 3 [6, 7, 8, 9, 15, 21, 25] g78 := ⟨_, [.t 6, .t 7], rfl, by kernel_rfl, by decide, by kernel_rfl, by kernel_rfl, rfl, rfl⟩
/-- (*pianola/timer.Timer).Read -/
def g79 : GFunc := ⟨2, (.seq (.reg fun _ fr h k =>
  forceG (.int .u32 (.ofNat 0)) fun v => Tr.setK .bad v q4 fr fun f4 =>
  forceG (.bool false) fun v => Tr.setK .bad v q5 f4 fun f5 =>
  k f5 h)
 (.seq (.seq (.reg fun _ fr h k =>
  forceG (Tr.get .bad q1 fr) fun v => Tr.setK .bad v q6 fr fun f6 =>
  k f6 h)
 (.block 0 (.seq (.reg fun _ fr h k =>
  obind (pEql (Tr.get .bad q6 fr) (.int .u32 (.ofNat 0))) fun v0 =>
  forceG v0 fun v => Tr.setK .bad v q7 fr fun f7 =>
  k f7 h)
 (.cond 7 q7 (.seq (.reg fun _ fr h k =>
  obind (pNilck (Tr.get .bad q0 fr)) fun v0 =>
  obind (pFa 2 v0) fun v1 =>
  obind (rLd1 v1 h) fun v2 =>
  forceG v2 fun v => Tr.setK .bad v q4 fr fun f4 =>
  forceG (.bool true) fun v => Tr.setK .bad v q5 f4 fun f5 =>
  k f5 h)
 .ret)
 (.seq (.reg fun _ fr h k =>
  obind (pEql (Tr.get .bad q6 fr) (.int .u32 (.ofNat 4))) fun v0 =>
  forceG v0 fun v => Tr.setK .bad v q13 fr fun f13 =>
  k f13 h)
 (.cond 13 q13 (.seq (.reg fun _ fr h k =>
  obind (pNilck (Tr.get .bad q0 fr)) fun v0 =>
  obind (pFa 3 v0) fun v1 =>
  obind (rLd1 v1 h) fun v2 =>
  forceG v2 fun v => Tr.setK .bad v q4 fr fun f4 =>
  forceG (.bool true) fun v => Tr.setK .bad v q5 f4 fun f5 =>
  k f5 h)
 .ret)
 (.seq (.reg fun _ fr h k =>
  obind (pEql (Tr.get .bad q6 fr) (.int .u32 (.ofNat 8))) fun v0 =>
  forceG v0 fun v => Tr.setK .bad v q19 fr fun f19 =>
  k f19 h)
 (.cond 19 q19 (.seq (.reg fun _ fr h k =>
  obind (pNilck (Tr.get .bad q0 fr)) fun v0 =>
  obind (pFa 4 v0) fun v1 =>
  obind (rLd1 v1 h) fun v2 =>
  forceG v2 fun v => Tr.setK .bad v q4 fr fun f4 =>
  forceG (.bool true) fun v => Tr.setK .bad v q5 f4 fun f5 =>
  k f5 h)
 .ret)
 .skip))))))))
 (.seq (.reg fun _ fr h k =>
  forceG (.int .u32 (.ofNat 0)) fun v => Tr.setK .bad v q4 fr fun f4 =>
  forceG (.bool false) fun v => Tr.setK .bad v q5 f4 fun f5 =>
  k f5 h)
 .ret))), resF [.t 4, .t 5]⟩
theorem g79_ok : Comp Tryz.prog Tryz.f79 2 [4, 5, 6, 7, 13, 19] g79 := ⟨_, [.t 4, .t 5], rfl, by kernel_rfl, by decide, by kernel_rfl, by kernel_rfl, rfl, rfl⟩
end
end Go.Ev
