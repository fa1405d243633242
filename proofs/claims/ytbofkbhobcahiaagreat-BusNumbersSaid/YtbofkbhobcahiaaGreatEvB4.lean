/- Ghost code of the Go functions, printed by a program of this session (genfiles.py). -/
import Derived.Test.YtbofkbhobcahiaaGreatEvComp
import Derived.Test.YtbofkbhobcahiaaGreatProg
namespace Go.Ev
open Go.Proofs
set_option maxRecDepth 100000
noncomputable section
/-- slices.symMergeCmpFunc[pianola/api.Event] -/
def g248 : GFunc := ⟨5, (.seq (.seq (.reg fun _ fr h k =>
  obind (pSub (Tr.get .bad q2 fr) (Tr.get .bad q1 fr)) fun v0 =>
  obind (pEql v0 (.int .i64 (.ofNat 1))) fun v1 =>
  forceG v1 fun v => Tr.setK .bad v q28 fr fun f28 =>
  k f28 h)
 (.cond 28 q28 (.seq (.reg fun _ fr h k =>
  forceG (Tr.get .bad q2 fr) fun v => Tr.setK .bad v q10 fr fun f10 =>
  k f10 h)
 (.seq (.reg fun _ fr h k =>
  forceG (Tr.get .bad q3 fr) fun v => Tr.setK .bad v q11 fr fun f11 =>
  k f11 h)
 (.seq (.block 0 (.loop (.seq (.seq (.reg fun _ fr h k =>
  obind (pLss (Tr.get .bad q10 fr) (Tr.get .bad q11 fr)) fun v0 =>
  forceG v0 fun v => Tr.setK .bad v q33 fr fun f33 =>
  k f33 h)
 (.cond 33 q33 .skip
 (.exit 0)))
 (.block 1 (.seq (.reg fun _ fr h k =>
  obind (pAdd (Tr.get .bad q10 fr) (Tr.get .bad q11 fr)) fun v0 =>
  obind (pConv .u64 v0) fun v1 =>
  obind (pShr v1 (.int .u64 (.ofNat 1))) fun v2 =>
  obind (pConv .i64 v2) fun v3 =>
  forceG v3 fun v => Tr.setK .bad v q12 fr fun f12 =>
  k f12 h)
 (.seq (.reg fun call fr h k =>
  obind (pIdxS 3 (Tr.get .bad q0 fr) (Tr.get .bad q12 fr)) fun v0 =>
  obind (rLdN 3 v0 h) fun v1 =>
  obind (pIdxS 3 (Tr.get .bad q0 fr) (Tr.get .bad q1 fr)) fun v2 =>
  obind (rLdN 3 v2 h) fun v3 =>
  callF call (Tr.get .bad q4 fr) [v1, v3] h fun v4 h5 =>
  obind (pLss v4 (.int .i64 (.ofNat 0))) fun v5 =>
  forceG v5 fun v => Tr.setK .bad v q50 fr fun f50 =>
  k f50 h5)
 (.cond 50 q50 (.reg fun _ fr h k =>
  obind (pAdd (Tr.get .bad q12 fr) (.int .i64 (.ofNat 1))) fun v0 =>
  forceG v0 fun v => Tr.setK .bad v q10 fr fun f10 =>
  k f10 h)
 (.reg fun _ fr h k =>
  forceG (Tr.get .bad q12 fr) fun v => Tr.setK .bad v q11 fr fun f11 =>
  k f11 h))))))))
 (.seq (.seq (.reg fun _ fr h k =>
  forceG (Tr.get .bad q1 fr) fun v => Tr.setK .bad v q13 fr fun f13 =>
  k f13 h)
 (.block 2 (.loop (.seq (.seq (.reg fun _ fr h k =>
  obind (pSub (Tr.get .bad q10 fr) (.int .i64 (.ofNat 1))) fun v0 =>
  obind (pLss (Tr.get .bad q13 fr) v0) fun v1 =>
  forceG v1 fun v => Tr.setK .bad v q58 fr fun f58 =>
  k f58 h)
 (.cond 58 q58 .skip
 (.exit 2)))
 (.seq (.block 3 (.reg fun _ fr h k =>
  obind (pAdd (Tr.get .bad q13 fr) (.int .i64 (.ofNat 1))) fun v0 =>
  obind (pAdd (Tr.get .bad q13 fr) (.int .i64 (.ofNat 1))) fun v1 =>
  obind (pIdxS 3 (Tr.get .bad q0 fr) v1) fun v2 =>
  obind (rLdN 3 v2 h) fun v3 =>
  obind (pIdxS 3 (Tr.get .bad q0 fr) (Tr.get .bad q13 fr)) fun v4 =>
  obind (rLdN 3 v4 h) fun v5 =>
  obind (pIdxS 3 (Tr.get .bad q0 fr) (Tr.get .bad q13 fr)) fun v6 =>
  obind (wStN 3 v6 v3 h) fun h8 =>
  obind (pIdxS 3 (Tr.get .bad q0 fr) v0) fun v8 =>
  obind (wStN 3 v8 v5 h8) fun h10 =>
  k fr h10))
 (.reg fun _ fr h k =>
  obind (pAdd (Tr.get .bad q13 fr) (.int .i64 (.ofNat 1))) fun v0 =>
  forceG v0 fun v => Tr.setK .bad v q13 fr fun f13 =>
  k f13 h))))))
 .ret))))
 .skip))
 (.seq (.seq (.reg fun _ fr h k =>
  obind (pSub (Tr.get .bad q3 fr) (Tr.get .bad q2 fr)) fun v0 =>
  obind (pEql v0 (.int .i64 (.ofNat 1))) fun v1 =>
  forceG v1 fun v => Tr.setK .bad v q80 fr fun f80 =>
  k f80 h)
 (.cond 80 q80 (.seq (.reg fun _ fr h k =>
  forceG (Tr.get .bad q1 fr) fun v => Tr.setK .bad v q14 fr fun f14 =>
  k f14 h)
 (.seq (.reg fun _ fr h k =>
  forceG (Tr.get .bad q2 fr) fun v => Tr.setK .bad v q15 fr fun f15 =>
  k f15 h)
 (.seq (.block 4 (.loop (.seq (.seq (.reg fun _ fr h k =>
  obind (pLss (Tr.get .bad q14 fr) (Tr.get .bad q15 fr)) fun v0 =>
  forceG v0 fun v => Tr.setK .bad v q85 fr fun f85 =>
  k f85 h)
 (.cond 85 q85 .skip
 (.exit 4)))
 (.block 5 (.seq (.reg fun _ fr h k =>
  obind (pAdd (Tr.get .bad q14 fr) (Tr.get .bad q15 fr)) fun v0 =>
  obind (pConv .u64 v0) fun v1 =>
  obind (pShr v1 (.int .u64 (.ofNat 1))) fun v2 =>
  obind (pConv .i64 v2) fun v3 =>
  forceG v3 fun v => Tr.setK .bad v q16 fr fun f16 =>
  k f16 h)
 (.seq (.reg fun call fr h k =>
  obind (pIdxS 3 (Tr.get .bad q0 fr) (Tr.get .bad q2 fr)) fun v0 =>
  obind (rLdN 3 v0 h) fun v1 =>
  obind (pIdxS 3 (Tr.get .bad q0 fr) (Tr.get .bad q16 fr)) fun v2 =>
  obind (rLdN 3 v2 h) fun v3 =>
  callF call (Tr.get .bad q4 fr) [v1, v3] h fun v4 h5 =>
  obind (pLss v4 (.int .i64 (.ofNat 0))) fun v5 =>
  obind (pNot v5) fun v6 =>
  forceG v6 fun v => Tr.setK .bad v q103 fr fun f103 =>
  k f103 h5)
 (.cond 103 q103 (.reg fun _ fr h k =>
  obind (pAdd (Tr.get .bad q16 fr) (.int .i64 (.ofNat 1))) fun v0 =>
  forceG v0 fun v => Tr.setK .bad v q14 fr fun f14 =>
  k f14 h)
 (.reg fun _ fr h k =>
  forceG (Tr.get .bad q16 fr) fun v => Tr.setK .bad v q15 fr fun f15 =>
  k f15 h))))))))
 (.seq (.seq (.reg fun _ fr h k =>
  forceG (Tr.get .bad q2 fr) fun v => Tr.setK .bad v q17 fr fun f17 =>
  k f17 h)
 (.block 6 (.loop (.seq (.seq (.reg fun _ fr h k =>
  obind (pGtr (Tr.get .bad q17 fr) (Tr.get .bad q14 fr)) fun v0 =>
  forceG v0 fun v => Tr.setK .bad v q110 fr fun f110 =>
  k f110 h)
 (.cond 110 q110 .skip
 (.exit 6)))
 (.seq (.block 7 (.reg fun _ fr h k =>
  obind (pSub (Tr.get .bad q17 fr) (.int .i64 (.ofNat 1))) fun v0 =>
  obind (pSub (Tr.get .bad q17 fr) (.int .i64 (.ofNat 1))) fun v1 =>
  obind (pIdxS 3 (Tr.get .bad q0 fr) v1) fun v2 =>
  obind (rLdN 3 v2 h) fun v3 =>
  obind (pIdxS 3 (Tr.get .bad q0 fr) (Tr.get .bad q17 fr)) fun v4 =>
  obind (rLdN 3 v4 h) fun v5 =>
  obind (pIdxS 3 (Tr.get .bad q0 fr) (Tr.get .bad q17 fr)) fun v6 =>
  obind (wStN 3 v6 v3 h) fun h8 =>
  obind (pIdxS 3 (Tr.get .bad q0 fr) v0) fun v8 =>
  obind (wStN 3 v8 v5 h8) fun h10 =>
  k fr h10))
 (.reg fun _ fr h k =>
  obind (pSub (Tr.get .bad q17 fr) (.int .i64 (.ofNat 1))) fun v0 =>
  forceG v0 fun v => Tr.setK .bad v q17 fr fun f17 =>
  k f17 h))))))
 .ret))))
 .skip))
 (.seq (.reg fun _ fr h k =>
  obind (pAdd (Tr.get .bad q1 fr) (Tr.get .bad q3 fr)) fun v0 =>
  obind (pConv .u64 v0) fun v1 =>
  obind (pShr v1 (.int .u64 (.ofNat 1))) fun v2 =>
  obind (pConv .i64 v2) fun v3 =>
  forceG v3 fun v => Tr.setK .bad v q18 fr fun f18 =>
  k f18 h)
 (.seq (.reg fun _ fr h k =>
  obind (pAdd (Tr.get .bad q18 fr) (Tr.get .bad q2 fr)) fun v0 =>
  forceG v0 fun v => Tr.setK .bad v q19 fr fun f19 =>
  k f19 h)
 (.seq (.reg fun _ fr h k =>
  forceG (.int .i64 (.ofNat 0)) fun v => Tr.setK .bad v q20 fr fun f20 =>
  forceG (.int .i64 (.ofNat 0)) fun v => Tr.setK .bad v q21 f20 fun f21 =>
  k f21 h)
 (.seq (.seq (.reg fun _ fr h k =>
  obind (pGtr (Tr.get .bad q2 fr) (Tr.get .bad q18 fr)) fun v0 =>
  forceG v0 fun v => Tr.setK .bad v q140 fr fun f140 =>
  k f140 h)
 (.cond 140 q140 (.seq (.reg fun _ fr h k =>
  obind (pSub (Tr.get .bad q19 fr) (Tr.get .bad q3 fr)) fun v0 =>
  forceG v0 fun v => Tr.setK .bad v q20 fr fun f20 =>
  k f20 h)
 (.reg fun _ fr h k =>
  forceG (Tr.get .bad q18 fr) fun v => Tr.setK .bad v q21 fr fun f21 =>
  k f21 h))
 (.seq (.reg fun _ fr h k =>
  forceG (Tr.get .bad q1 fr) fun v => Tr.setK .bad v q20 fr fun f20 =>
  k f20 h)
 (.reg fun _ fr h k =>
  forceG (Tr.get .bad q2 fr) fun v => Tr.setK .bad v q21 fr fun f21 =>
  k f21 h))))
 (.seq (.reg fun _ fr h k =>
  obind (pSub (Tr.get .bad q19 fr) (.int .i64 (.ofNat 1))) fun v0 =>
  forceG v0 fun v => Tr.setK .bad v q22 fr fun f22 =>
  k f22 h)
 (.seq (.block 8 (.loop (.seq (.seq (.reg fun _ fr h k =>
  obind (pLss (Tr.get .bad q20 fr) (Tr.get .bad q21 fr)) fun v0 =>
  forceG v0 fun v => Tr.setK .bad v q151 fr fun f151 =>
  k f151 h)
 (.cond 151 q151 .skip
 (.exit 8)))
 (.block 9 (.seq (.reg fun _ fr h k =>
  obind (pAdd (Tr.get .bad q20 fr) (Tr.get .bad q21 fr)) fun v0 =>
  obind (pConv .u64 v0) fun v1 =>
  obind (pShr v1 (.int .u64 (.ofNat 1))) fun v2 =>
  obind (pConv .i64 v2) fun v3 =>
  forceG v3 fun v => Tr.setK .bad v q23 fr fun f23 =>
  k f23 h)
 (.seq (.reg fun call fr h k =>
  obind (pSub (Tr.get .bad q22 fr) (Tr.get .bad q23 fr)) fun v0 =>
  obind (pIdxS 3 (Tr.get .bad q0 fr) v0) fun v1 =>
  obind (rLdN 3 v1 h) fun v2 =>
  obind (pIdxS 3 (Tr.get .bad q0 fr) (Tr.get .bad q23 fr)) fun v3 =>
  obind (rLdN 3 v3 h) fun v4 =>
  callF call (Tr.get .bad q4 fr) [v2, v4] h fun v5 h6 =>
  obind (pLss v5 (.int .i64 (.ofNat 0))) fun v6 =>
  obind (pNot v6) fun v7 =>
  forceG v7 fun v => Tr.setK .bad v q171 fr fun f171 =>
  k f171 h6)
 (.cond 171 q171 (.reg fun _ fr h k =>
  obind (pAdd (Tr.get .bad q23 fr) (.int .i64 (.ofNat 1))) fun v0 =>
  forceG v0 fun v => Tr.setK .bad v q20 fr fun f20 =>
  k f20 h)
 (.reg fun _ fr h k =>
  forceG (Tr.get .bad q23 fr) fun v => Tr.setK .bad v q21 fr fun f21 =>
  k f21 h))))))))
 (.seq (.reg fun _ fr h k =>
  obind (pSub (Tr.get .bad q19 fr) (Tr.get .bad q20 fr)) fun v0 =>
  forceG v0 fun v => Tr.setK .bad v q24 fr fun f24 =>
  k f24 h)
 (.seq (.seq (.reg fun _ fr h k =>
  obind (pLss (Tr.get .bad q20 fr) (Tr.get .bad q2 fr)) fun v0 =>
  guardC v0 true h (fun k => k (Tr.get .bad q2 fr) h) fun v1 h2 =>
  guardC v0 true h2 (fun k => k (Tr.get .bad q24 fr) h2) fun v2 h3 =>
  guardC v0 true h3 (fun k => obind (pLss v1 v2) fun v => k v h3) fun v3 h4 =>
  obind (pPick v0 v3 (.bool false)) fun v4 =>
  forceG v4 fun v => Tr.setK .bad v q185 fr fun f185 =>
  k f185 h4)
 (.cond 185 q185 (.reg fun call fr h k =>
  call q264 [(Tr.get .bad q0 fr), (Tr.get .bad q20 fr), (Tr.get .bad q2 fr), (Tr.get .bad q24 fr), (Tr.get .bad q4 fr)] h fun _ h1 =>
  k fr h1)
 .skip))
 (.seq (.seq (.reg fun _ fr h k =>
  obind (pLss (Tr.get .bad q1 fr) (Tr.get .bad q20 fr)) fun v0 =>
  guardC v0 true h (fun k => k (Tr.get .bad q20 fr) h) fun v1 h2 =>
  guardC v0 true h2 (fun k => k (Tr.get .bad q18 fr) h2) fun v2 h3 =>
  guardC v0 true h3 (fun k => obind (pLss v1 v2) fun v => k v h3) fun v3 h4 =>
  obind (pPick v0 v3 (.bool false)) fun v4 =>
  forceG v4 fun v => Tr.setK .bad v q199 fr fun f199 =>
  k f199 h4)
 (.cond 199 q199 (.reg fun call fr h k =>
  call q248 [(Tr.get .bad q0 fr), (Tr.get .bad q1 fr), (Tr.get .bad q20 fr), (Tr.get .bad q18 fr), (Tr.get .bad q4 fr)] h fun _ h1 =>
  k fr h1)
 .skip))
 (.seq (.reg fun _ fr h k =>
  obind (pLss (Tr.get .bad q18 fr) (Tr.get .bad q24 fr)) fun v0 =>
  guardC v0 true h (fun k => k (Tr.get .bad q24 fr) h) fun v1 h2 =>
  guardC v0 true h2 (fun k => k (Tr.get .bad q3 fr) h2) fun v2 h3 =>
  guardC v0 true h3 (fun k => obind (pLss v1 v2) fun v => k v h3) fun v3 h4 =>
  obind (pPick v0 v3 (.bool false)) fun v4 =>
  forceG v4 fun v => Tr.setK .bad v q213 fr fun f213 =>
  k f213 h4)
 (.cond 213 q213 (.reg fun call fr h k =>
  call q248 [(Tr.get .bad q0 fr), (Tr.get .bad q18 fr), (Tr.get .bad q24 fr), (Tr.get .bad q3 fr), (Tr.get .bad q4 fr)] h fun _ h1 =>
  k fr h1)
 .skip))))))))))))), resF []⟩
theorem g248_ok : Comp Tryz.prog Tryz.f248 5 [10, 11, 12, 13, 14, 15, 16, 17, 18, 19, 20, 21, 22, 23, 24, 28, 33, 50, 58, 80, 85, 103, 110, 140, 151, 171, 185, 199, 213] g248 := ⟨_, [], rfl, by kernel_rfl, by decide, by kernel_rfl, by kernel_rfl, rfl, rfl⟩
/-- slices.rotateCmpFunc[pianola/api.Event] -/
def g264 : GFunc := ⟨5, (.seq (.reg fun _ fr h k =>
  obind (pSub (Tr.get .bad q2 fr) (Tr.get .bad q1 fr)) fun v0 =>
  forceG v0 fun v => Tr.setK .bad v q10 fr fun f10 =>
  k f10 h)
 (.seq (.reg fun _ fr h k =>
  obind (pSub (Tr.get .bad q3 fr) (Tr.get .bad q2 fr)) fun v0 =>
  forceG v0 fun v => Tr.setK .bad v q11 fr fun f11 =>
  k f11 h)
 (.seq (.block 0 (.loop (.seq (.seq (.reg fun _ fr h k =>
  obind (pNeq (Tr.get .bad q10 fr) (Tr.get .bad q11 fr)) fun v0 =>
  forceG v0 fun v => Tr.setK .bad v q20 fr fun f20 =>
  k f20 h)
 (.cond 20 q20 .skip
 (.exit 0)))
 (.block 1 (.seq (.reg fun _ fr h k =>
  obind (pGtr (Tr.get .bad q10 fr) (Tr.get .bad q11 fr)) fun v0 =>
  forceG v0 fun v => Tr.setK .bad v q23 fr fun f23 =>
  k f23 h)
 (.cond 23 q23 (.seq (.reg fun call fr h k =>
  obind (pSub (Tr.get .bad q2 fr) (Tr.get .bad q10 fr)) fun v0 =>
  call q275 [(Tr.get .bad q0 fr), v0, (Tr.get .bad q2 fr), (Tr.get .bad q11 fr), (Tr.get .bad q4 fr)] h fun _ h2 =>
  k fr h2)
 (.reg fun _ fr h k =>
  obind (pSub (Tr.get .bad q10 fr) (Tr.get .bad q11 fr)) fun v0 =>
  forceG v0 fun v => Tr.setK .bad v q10 fr fun f10 =>
  k f10 h))
 (.seq (.reg fun call fr h k =>
  obind (pSub (Tr.get .bad q2 fr) (Tr.get .bad q10 fr)) fun v0 =>
  obind (pAdd (Tr.get .bad q2 fr) (Tr.get .bad q11 fr)) fun v1 =>
  obind (pSub v1 (Tr.get .bad q10 fr)) fun v2 =>
  call q275 [(Tr.get .bad q0 fr), v0, v2, (Tr.get .bad q10 fr), (Tr.get .bad q4 fr)] h fun _ h4 =>
  k fr h4)
 (.reg fun _ fr h k =>
  obind (pSub (Tr.get .bad q11 fr) (Tr.get .bad q10 fr)) fun v0 =>
  forceG v0 fun v => Tr.setK .bad v q11 fr fun f11 =>
  k f11 h))))))))
 (.reg fun call fr h k =>
  obind (pSub (Tr.get .bad q2 fr) (Tr.get .bad q10 fr)) fun v0 =>
  call q275 [(Tr.get .bad q0 fr), v0, (Tr.get .bad q2 fr), (Tr.get .bad q10 fr), (Tr.get .bad q4 fr)] h fun _ h2 =>
  k fr h2)))), resF []⟩
theorem g264_ok : Comp Tryz.prog Tryz.f264 5 [10, 11, 20, 23] g264 := ⟨_, [], rfl, by kernel_rfl, by decide, by kernel_rfl, by kernel_rfl, rfl, rfl⟩
/-- slices.swapRangeCmpFunc[pianola/api.Event] -/
def g275 : GFunc := ⟨5, (.seq (.reg fun _ fr h k =>
  forceG (.int .i64 (.ofNat 0)) fun v => Tr.setK .bad v q10 fr fun f10 =>
  k f10 h)
 (.block 0 (.loop (.seq (.seq (.reg fun _ fr h k =>
  obind (pLss (Tr.get .bad q10 fr) (Tr.get .bad q3 fr)) fun v0 =>
  forceG v0 fun v => Tr.setK .bad v q13 fr fun f13 =>
  k f13 h)
 (.cond 13 q13 .skip
 (.exit 0)))
 (.seq (.block 1 (.reg fun _ fr h k =>
  obind (pAdd (Tr.get .bad q1 fr) (Tr.get .bad q10 fr)) fun v0 =>
  obind (pAdd (Tr.get .bad q2 fr) (Tr.get .bad q10 fr)) fun v1 =>
  obind (pAdd (Tr.get .bad q2 fr) (Tr.get .bad q10 fr)) fun v2 =>
  obind (pIdxS 3 (Tr.get .bad q0 fr) v2) fun v3 =>
  obind (rLdN 3 v3 h) fun v4 =>
  obind (pAdd (Tr.get .bad q1 fr) (Tr.get .bad q10 fr)) fun v5 =>
  obind (pIdxS 3 (Tr.get .bad q0 fr) v5) fun v6 =>
  obind (rLdN 3 v6 h) fun v7 =>
  obind (pIdxS 3 (Tr.get .bad q0 fr) v0) fun v8 =>
  obind (wStN 3 v8 v4 h) fun h10 =>
  obind (pIdxS 3 (Tr.get .bad q0 fr) v1) fun v10 =>
  obind (wStN 3 v10 v7 h10) fun h12 =>
  k fr h12))
 (.reg fun _ fr h k =>
  obind (pAdd (Tr.get .bad q10 fr) (.int .i64 (.ofNat 1))) fun v0 =>
  forceG v0 fun v => Tr.setK .bad v q10 fr fun f10 =>
  k f10 h)))))), resF []⟩
theorem g275_ok : Comp Tryz.prog Tryz.f275 5 [10, 13] g275 := ⟨_, [], rfl, by kernel_rfl, by decide, by kernel_rfl, by kernel_rfl, rfl, rfl⟩
end
end Go.Ev
