/- Ghost code of the Go functions, printed by a program of this session (genfiles.py). -/
import Derived.Test.YtbofkbhobcahiaaGreatEvComp
import Derived.Test.YtbofkbhobcahiaaGreatProg
namespace Go.Ev
open Go.Proofs
set_option maxRecDepth 100000
noncomputable section
/-- cmp.Less[int] -/
def g255 : GFunc := ⟨2, (.seq (.reg fun _ fr h k =>
  forceG (.bool false) fun v => Tr.setK .bad v q4 fr fun f4 =>
  k f4 h)
 (.seq (.reg fun call fr h k =>
  call q270 [(Tr.get .bad q0 fr)] h fun v0 h1 =>
  guardC v0 true h1 (fun k => k (Tr.get .bad q1 fr) h1) fun v1 h2 =>
  guardC v0 true h2 (fun k => call q270 [v1] h2 k) fun v2 h3 =>
  guardC v0 true h3 (fun k => obind (pNot v2) fun v => k v h3) fun v3 h4 =>
  obind (pPick v0 v3 (.bool false)) fun v4 =>
  guardC v4 false h4 (fun k => k (Tr.get .bad q0 fr) h4) fun v5 h6 =>
  guardC v4 false h6 (fun k => k (Tr.get .bad q1 fr) h6) fun v6 h7 =>
  guardC v4 false h7 (fun k => obind (pLss v5 v6) fun v => k v h7) fun v7 h8 =>
  obind (pPick v4 (.bool true) v7) fun v8 =>
  forceG v8 fun v => Tr.setK .bad v q4 fr fun f4 =>
  k f4 h8)
 .ret)), resF [.t 4]⟩
theorem g255_ok : Comp Tryz.prog Tryz.f255 2 [4] g255 := ⟨_, [.t 4], rfl, by kernel_rfl, by decide, by kernel_rfl, by kernel_rfl, rfl, rfl⟩
/-- slices.partitionEqualOrdered[int] -/
def g256 : GFunc := ⟨4, (.seq (.reg fun _ fr h k =>
  forceG (.int .i64 (.ofNat 0)) fun v => Tr.setK .bad v q8 fr fun f8 =>
  k f8 h)
 (.seq (.reg fun _ fr h k =>
  obind (pIdxS 1 (Tr.get .bad q0 fr) (Tr.get .bad q3 fr)) fun v0 =>
  obind (rLd1 v0 h) fun v1 =>
  obind (pIdxS 1 (Tr.get .bad q0 fr) (Tr.get .bad q1 fr)) fun v2 =>
  obind (rLd1 v2 h) fun v3 =>
  obind (pIdxS 1 (Tr.get .bad q0 fr) (Tr.get .bad q1 fr)) fun v4 =>
  obind (wSt1 v4 v1 h) fun h6 =>
  obind (pIdxS 1 (Tr.get .bad q0 fr) (Tr.get .bad q3 fr)) fun v6 =>
  obind (wSt1 v6 v3 h6) fun h8 =>
  k fr h8)
 (.seq (.reg fun _ fr h k =>
  obind (pAdd (Tr.get .bad q1 fr) (.int .i64 (.ofNat 1))) fun v0 =>
  obind (pSub (Tr.get .bad q2 fr) (.int .i64 (.ofNat 1))) fun v1 =>
  forceG v0 fun v => Tr.setK .bad v q9 fr fun f9 =>
  forceG v1 fun v => Tr.setK .bad v q10 f9 fun f10 =>
  k f10 h)
 (.seq (.block 0 (.loop (.block 1 (.seq (.block 2 (.loop (.seq (.seq (.reg fun call fr h k =>
  obind (pLeq (Tr.get .bad q9 fr) (Tr.get .bad q10 fr)) fun v0 =>
  guardC v0 true h (fun k => k (Tr.get .bad q0 fr) h) fun v1 h2 =>
  guardC v0 true h2 (fun k => k (Tr.get .bad q1 fr) h2) fun v2 h3 =>
  guardC v0 true h3 (fun k => obind (pIdxS 1 v1 v2) fun v => k v h3) fun v3 h4 =>
  guardC v0 true h4 (fun k => obind (rLd1 v3 h4) fun v => k v h4) fun v4 h5 =>
  guardC v0 true h5 (fun k => k (Tr.get .bad q0 fr) h5) fun v5 h6 =>
  guardC v0 true h6 (fun k => k (Tr.get .bad q9 fr) h6) fun v6 h7 =>
  guardC v0 true h7 (fun k => obind (pIdxS 1 v5 v6) fun v => k v h7) fun v7 h8 =>
  guardC v0 true h8 (fun k => obind (rLd1 v7 h8) fun v => k v h8) fun v8 h9 =>
  guardC v0 true h9 (fun k => call q255 [v4, v8] h9 k) fun v9 h10 =>
  guardC v0 true h10 (fun k => obind (pNot v9) fun v => k v h10) fun v10 h11 =>
  obind (pPick v0 v10 (.bool false)) fun v11 =>
  forceG v11 fun v => Tr.setK .bad v q43 fr fun f43 =>
  k f43 h11)
 (.cond 43 q43 .skip
 (.exit 2)))
 (.block 3 (.reg fun _ fr h k =>
  obind (pAdd (Tr.get .bad q9 fr) (.int .i64 (.ofNat 1))) fun v0 =>
  forceG v0 fun v => Tr.setK .bad v q9 fr fun f9 =>
  k f9 h)))))
 (.seq (.block 4 (.loop (.seq (.seq (.reg fun call fr h k =>
  obind (pLeq (Tr.get .bad q9 fr) (Tr.get .bad q10 fr)) fun v0 =>
  guardC v0 true h (fun k => k (Tr.get .bad q0 fr) h) fun v1 h2 =>
  guardC v0 true h2 (fun k => k (Tr.get .bad q1 fr) h2) fun v2 h3 =>
  guardC v0 true h3 (fun k => obind (pIdxS 1 v1 v2) fun v => k v h3) fun v3 h4 =>
  guardC v0 true h4 (fun k => obind (rLd1 v3 h4) fun v => k v h4) fun v4 h5 =>
  guardC v0 true h5 (fun k => k (Tr.get .bad q0 fr) h5) fun v5 h6 =>
  guardC v0 true h6 (fun k => k (Tr.get .bad q10 fr) h6) fun v6 h7 =>
  guardC v0 true h7 (fun k => obind (pIdxS 1 v5 v6) fun v => k v h7) fun v7 h8 =>
  guardC v0 true h8 (fun k => obind (rLd1 v7 h8) fun v => k v h8) fun v8 h9 =>
  guardC v0 true h9 (fun k => call q255 [v4, v8] h9 k) fun v9 h10 =>
  obind (pPick v0 v9 (.bool false)) fun v10 =>
  forceG v10 fun v => Tr.setK .bad v q59 fr fun f59 =>
  k f59 h10)
 (.cond 59 q59 .skip
 (.exit 4)))
 (.block 5 (.reg fun _ fr h k =>
  obind (pSub (Tr.get .bad q10 fr) (.int .i64 (.ofNat 1))) fun v0 =>
  forceG v0 fun v => Tr.setK .bad v q10 fr fun f10 =>
  k f10 h)))))
 (.seq (.seq (.reg fun _ fr h k =>
  obind (pGtr (Tr.get .bad q9 fr) (Tr.get .bad q10 fr)) fun v0 =>
  forceG v0 fun v => Tr.setK .bad v q64 fr fun f64 =>
  k f64 h)
 (.cond 64 q64 (.exit 0)
 .skip))
 (.seq (.reg fun _ fr h k =>
  obind (pIdxS 1 (Tr.get .bad q0 fr) (Tr.get .bad q10 fr)) fun v0 =>
  obind (rLd1 v0 h) fun v1 =>
  obind (pIdxS 1 (Tr.get .bad q0 fr) (Tr.get .bad q9 fr)) fun v2 =>
  obind (rLd1 v2 h) fun v3 =>
  obind (pIdxS 1 (Tr.get .bad q0 fr) (Tr.get .bad q9 fr)) fun v4 =>
  obind (wSt1 v4 v1 h) fun h6 =>
  obind (pIdxS 1 (Tr.get .bad q0 fr) (Tr.get .bad q10 fr)) fun v6 =>
  obind (wSt1 v6 v3 h6) fun h8 =>
  k fr h8)
 (.seq (.reg fun _ fr h k =>
  obind (pAdd (Tr.get .bad q9 fr) (.int .i64 (.ofNat 1))) fun v0 =>
  forceG v0 fun v => Tr.setK .bad v q9 fr fun f9 =>
  k f9 h)
 (.reg fun _ fr h k =>
  obind (pSub (Tr.get .bad q10 fr) (.int .i64 (.ofNat 1))) fun v0 =>
  forceG v0 fun v => Tr.setK .bad v q10 fr fun f10 =>
  k f10 h)))))))))
 (.seq (.reg fun _ fr h k =>
  forceG (Tr.get .bad q9 fr) fun v => Tr.setK .bad v q8 fr fun f8 =>
  k f8 h)
 .ret))))), resF [.t 8]⟩
theorem g256_ok : Comp Tryz.prog Tryz.f256 4 [8, 9, 10, 43, 59, 64] g256 := ⟨_, [.t 8], rfl, by kernel_rfl, by decide, by kernel_rfl, by kernel_rfl, rfl, rfl⟩
/-- slices.partitionOrdered[int] -/
def g257 : GFunc := ⟨4, (.seq (.reg fun _ fr h k =>
  forceG (.int .i64 (.ofNat 0)) fun v => Tr.setK .bad v q8 fr fun f8 =>
  forceG (.bool false) fun v => Tr.setK .bad v q9 f8 fun f9 =>
  k f9 h)
 (.seq (.reg fun _ fr h k =>
  obind (pIdxS 1 (Tr.get .bad q0 fr) (Tr.get .bad q3 fr)) fun v0 =>
  obind (rLd1 v0 h) fun v1 =>
  obind (pIdxS 1 (Tr.get .bad q0 fr) (Tr.get .bad q1 fr)) fun v2 =>
  obind (rLd1 v2 h) fun v3 =>
  obind (pIdxS 1 (Tr.get .bad q0 fr) (Tr.get .bad q1 fr)) fun v4 =>
  obind (wSt1 v4 v1 h) fun h6 =>
  obind (pIdxS 1 (Tr.get .bad q0 fr) (Tr.get .bad q3 fr)) fun v6 =>
  obind (wSt1 v6 v3 h6) fun h8 =>
  k fr h8)
 (.seq (.reg fun _ fr h k =>
  obind (pAdd (Tr.get .bad q1 fr) (.int .i64 (.ofNat 1))) fun v0 =>
  obind (pSub (Tr.get .bad q2 fr) (.int .i64 (.ofNat 1))) fun v1 =>
  forceG v0 fun v => Tr.setK .bad v q10 fr fun f10 =>
  forceG v1 fun v => Tr.setK .bad v q11 f10 fun f11 =>
  k f11 h)
 (.seq (.block 0 (.loop (.seq (.seq (.reg fun call fr h k =>
  obind (pLeq (Tr.get .bad q10 fr) (Tr.get .bad q11 fr)) fun v0 =>
  guardC v0 true h (fun k => k (Tr.get .bad q0 fr) h) fun v1 h2 =>
  guardC v0 true h2 (fun k => k (Tr.get .bad q10 fr) h2) fun v2 h3 =>
  guardC v0 true h3 (fun k => obind (pIdxS 1 v1 v2) fun v => k v h3) fun v3 h4 =>
  guardC v0 true h4 (fun k => obind (rLd1 v3 h4) fun v => k v h4) fun v4 h5 =>
  guardC v0 true h5 (fun k => k (Tr.get .bad q0 fr) h5) fun v5 h6 =>
  guardC v0 true h6 (fun k => k (Tr.get .bad q1 fr) h6) fun v6 h7 =>
  guardC v0 true h7 (fun k => obind (pIdxS 1 v5 v6) fun v => k v h7) fun v7 h8 =>
  guardC v0 true h8 (fun k => obind (rLd1 v7 h8) fun v => k v h8) fun v8 h9 =>
  guardC v0 true h9 (fun k => call q255 [v4, v8] h9 k) fun v9 h10 =>
  obind (pPick v0 v9 (.bool false)) fun v10 =>
  forceG v10 fun v => Tr.setK .bad v q43 fr fun f43 =>
  k f43 h10)
 (.cond 43 q43 .skip
 (.exit 0)))
 (.block 1 (.reg fun _ fr h k =>
  obind (pAdd (Tr.get .bad q10 fr) (.int .i64 (.ofNat 1))) fun v0 =>
  forceG v0 fun v => Tr.setK .bad v q10 fr fun f10 =>
  k f10 h)))))
 (.seq (.block 2 (.loop (.seq (.seq (.reg fun call fr h k =>
  obind (pLeq (Tr.get .bad q10 fr) (Tr.get .bad q11 fr)) fun v0 =>
  guardC v0 true h (fun k => k (Tr.get .bad q0 fr) h) fun v1 h2 =>
  guardC v0 true h2 (fun k => k (Tr.get .bad q11 fr) h2) fun v2 h3 =>
  guardC v0 true h3 (fun k => obind (pIdxS 1 v1 v2) fun v => k v h3) fun v3 h4 =>
  guardC v0 true h4 (fun k => obind (rLd1 v3 h4) fun v => k v h4) fun v4 h5 =>
  guardC v0 true h5 (fun k => k (Tr.get .bad q0 fr) h5) fun v5 h6 =>
  guardC v0 true h6 (fun k => k (Tr.get .bad q1 fr) h6) fun v6 h7 =>
  guardC v0 true h7 (fun k => obind (pIdxS 1 v5 v6) fun v => k v h7) fun v7 h8 =>
  guardC v0 true h8 (fun k => obind (rLd1 v7 h8) fun v => k v h8) fun v8 h9 =>
  guardC v0 true h9 (fun k => call q255 [v4, v8] h9 k) fun v9 h10 =>
  guardC v0 true h10 (fun k => obind (pNot v9) fun v => k v h10) fun v10 h11 =>
  obind (pPick v0 v10 (.bool false)) fun v11 =>
  forceG v11 fun v => Tr.setK .bad v q60 fr fun f60 =>
  k f60 h11)
 (.cond 60 q60 .skip
 (.exit 2)))
 (.block 3 (.reg fun _ fr h k =>
  obind (pSub (Tr.get .bad q11 fr) (.int .i64 (.ofNat 1))) fun v0 =>
  forceG v0 fun v => Tr.setK .bad v q11 fr fun f11 =>
  k f11 h)))))
 (.seq (.seq (.reg fun _ fr h k =>
  obind (pGtr (Tr.get .bad q10 fr) (Tr.get .bad q11 fr)) fun v0 =>
  forceG v0 fun v => Tr.setK .bad v q65 fr fun f65 =>
  k f65 h)
 (.cond 65 q65 (.seq (.reg fun _ fr h k =>
  obind (pIdxS 1 (Tr.get .bad q0 fr) (Tr.get .bad q1 fr)) fun v0 =>
  obind (rLd1 v0 h) fun v1 =>
  obind (pIdxS 1 (Tr.get .bad q0 fr) (Tr.get .bad q11 fr)) fun v2 =>
  obind (rLd1 v2 h) fun v3 =>
  obind (pIdxS 1 (Tr.get .bad q0 fr) (Tr.get .bad q11 fr)) fun v4 =>
  obind (wSt1 v4 v1 h) fun h6 =>
  obind (pIdxS 1 (Tr.get .bad q0 fr) (Tr.get .bad q1 fr)) fun v6 =>
  obind (wSt1 v6 v3 h6) fun h8 =>
  k fr h8)
 (.seq (.reg fun _ fr h k =>
  forceG (Tr.get .bad q11 fr) fun v => Tr.setK .bad v q8 fr fun f8 =>
  forceG (.bool true) fun v => Tr.setK .bad v q9 f8 fun f9 =>
  k f9 h)
 .ret))
 .skip))
 (.seq (.reg fun _ fr h k =>
  obind (pIdxS 1 (Tr.get .bad q0 fr) (Tr.get .bad q11 fr)) fun v0 =>
  obind (rLd1 v0 h) fun v1 =>
  obind (pIdxS 1 (Tr.get .bad q0 fr) (Tr.get .bad q10 fr)) fun v2 =>
  obind (rLd1 v2 h) fun v3 =>
  obind (pIdxS 1 (Tr.get .bad q0 fr) (Tr.get .bad q10 fr)) fun v4 =>
  obind (wSt1 v4 v1 h) fun h6 =>
  obind (pIdxS 1 (Tr.get .bad q0 fr) (Tr.get .bad q11 fr)) fun v6 =>
  obind (wSt1 v6 v3 h6) fun h8 =>
  k fr h8)
 (.seq (.reg fun _ fr h k =>
  obind (pAdd (Tr.get .bad q10 fr) (.int .i64 (.ofNat 1))) fun v0 =>
  forceG v0 fun v => Tr.setK .bad v q10 fr fun f10 =>
  k f10 h)
 (.seq (.reg fun _ fr h k =>
  obind (pSub (Tr.get .bad q11 fr) (.int .i64 (.ofNat 1))) fun v0 =>
  forceG v0 fun v => Tr.setK .bad v q11 fr fun f11 =>
  k f11 h)
 (.seq (.block 4 (.loop (.block 5 (.seq (.block 6 (.loop (.seq (.seq (.reg fun call fr h k =>
  obind (pLeq (Tr.get .bad q10 fr) (Tr.get .bad q11 fr)) fun v0 =>
  guardC v0 true h (fun k => k (Tr.get .bad q0 fr) h) fun v1 h2 =>
  guardC v0 true h2 (fun k => k (Tr.get .bad q10 fr) h2) fun v2 h3 =>
  guardC v0 true h3 (fun k => obind (pIdxS 1 v1 v2) fun v => k v h3) fun v3 h4 =>
  guardC v0 true h4 (fun k => obind (rLd1 v3 h4) fun v => k v h4) fun v4 h5 =>
  guardC v0 true h5 (fun k => k (Tr.get .bad q0 fr) h5) fun v5 h6 =>
  guardC v0 true h6 (fun k => k (Tr.get .bad q1 fr) h6) fun v6 h7 =>
  guardC v0 true h7 (fun k => obind (pIdxS 1 v5 v6) fun v => k v h7) fun v7 h8 =>
  guardC v0 true h8 (fun k => obind (rLd1 v7 h8) fun v => k v h8) fun v8 h9 =>
  guardC v0 true h9 (fun k => call q255 [v4, v8] h9 k) fun v9 h10 =>
  obind (pPick v0 v9 (.bool false)) fun v10 =>
  forceG v10 fun v => Tr.setK .bad v q112 fr fun f112 =>
  k f112 h10)
 (.cond 112 q112 .skip
 (.exit 6)))
 (.block 7 (.reg fun _ fr h k =>
  obind (pAdd (Tr.get .bad q10 fr) (.int .i64 (.ofNat 1))) fun v0 =>
  forceG v0 fun v => Tr.setK .bad v q10 fr fun f10 =>
  k f10 h)))))
 (.seq (.block 8 (.loop (.seq (.seq (.reg fun call fr h k =>
  obind (pLeq (Tr.get .bad q10 fr) (Tr.get .bad q11 fr)) fun v0 =>
  guardC v0 true h (fun k => k (Tr.get .bad q0 fr) h) fun v1 h2 =>
  guardC v0 true h2 (fun k => k (Tr.get .bad q11 fr) h2) fun v2 h3 =>
  guardC v0 true h3 (fun k => obind (pIdxS 1 v1 v2) fun v => k v h3) fun v3 h4 =>
  guardC v0 true h4 (fun k => obind (rLd1 v3 h4) fun v => k v h4) fun v4 h5 =>
  guardC v0 true h5 (fun k => k (Tr.get .bad q0 fr) h5) fun v5 h6 =>
  guardC v0 true h6 (fun k => k (Tr.get .bad q1 fr) h6) fun v6 h7 =>
  guardC v0 true h7 (fun k => obind (pIdxS 1 v5 v6) fun v => k v h7) fun v7 h8 =>
  guardC v0 true h8 (fun k => obind (rLd1 v7 h8) fun v => k v h8) fun v8 h9 =>
  guardC v0 true h9 (fun k => call q255 [v4, v8] h9 k) fun v9 h10 =>
  guardC v0 true h10 (fun k => obind (pNot v9) fun v => k v h10) fun v10 h11 =>
  obind (pPick v0 v10 (.bool false)) fun v11 =>
  forceG v11 fun v => Tr.setK .bad v q129 fr fun f129 =>
  k f129 h11)
 (.cond 129 q129 .skip
 (.exit 8)))
 (.block 9 (.reg fun _ fr h k =>
  obind (pSub (Tr.get .bad q11 fr) (.int .i64 (.ofNat 1))) fun v0 =>
  forceG v0 fun v => Tr.setK .bad v q11 fr fun f11 =>
  k f11 h)))))
 (.seq (.seq (.reg fun _ fr h k =>
  obind (pGtr (Tr.get .bad q10 fr) (Tr.get .bad q11 fr)) fun v0 =>
  forceG v0 fun v => Tr.setK .bad v q134 fr fun f134 =>
  k f134 h)
 (.cond 134 q134 (.exit 4)
 .skip))
 (.seq (.reg fun _ fr h k =>
  obind (pIdxS 1 (Tr.get .bad q0 fr) (Tr.get .bad q11 fr)) fun v0 =>
  obind (rLd1 v0 h) fun v1 =>
  obind (pIdxS 1 (Tr.get .bad q0 fr) (Tr.get .bad q10 fr)) fun v2 =>
  obind (rLd1 v2 h) fun v3 =>
  obind (pIdxS 1 (Tr.get .bad q0 fr) (Tr.get .bad q10 fr)) fun v4 =>
  obind (wSt1 v4 v1 h) fun h6 =>
  obind (pIdxS 1 (Tr.get .bad q0 fr) (Tr.get .bad q11 fr)) fun v6 =>
  obind (wSt1 v6 v3 h6) fun h8 =>
  k fr h8)
 (.seq (.reg fun _ fr h k =>
  obind (pAdd (Tr.get .bad q10 fr) (.int .i64 (.ofNat 1))) fun v0 =>
  forceG v0 fun v => Tr.setK .bad v q10 fr fun f10 =>
  k f10 h)
 (.reg fun _ fr h k =>
  obind (pSub (Tr.get .bad q11 fr) (.int .i64 (.ofNat 1))) fun v0 =>
  forceG v0 fun v => Tr.setK .bad v q11 fr fun f11 =>
  k f11 h)))))))))
 (.seq (.reg fun _ fr h k =>
  obind (pIdxS 1 (Tr.get .bad q0 fr) (Tr.get .bad q1 fr)) fun v0 =>
  obind (rLd1 v0 h) fun v1 =>
  obind (pIdxS 1 (Tr.get .bad q0 fr) (Tr.get .bad q11 fr)) fun v2 =>
  obind (rLd1 v2 h) fun v3 =>
  obind (pIdxS 1 (Tr.get .bad q0 fr) (Tr.get .bad q11 fr)) fun v4 =>
  obind (wSt1 v4 v1 h) fun h6 =>
  obind (pIdxS 1 (Tr.get .bad q0 fr) (Tr.get .bad q1 fr)) fun v6 =>
  obind (wSt1 v6 v3 h6) fun h8 =>
  k fr h8)
 (.seq (.reg fun _ fr h k =>
  forceG (Tr.get .bad q11 fr) fun v => Tr.setK .bad v q8 fr fun f8 =>
  forceG (.bool false) fun v => Tr.setK .bad v q9 f8 fun f9 =>
  k f9 h)
 .ret)))))))))))), resF [.t 8, .t 9]⟩
theorem g257_ok : Comp Tryz.prog Tryz.f257 4 [8, 9, 10, 11, 43, 60, 65, 112, 129, 134] g257 := ⟨_, [.t 8, .t 9], rfl, by kernel_rfl, by decide, by kernel_rfl, by kernel_rfl, rfl, rfl⟩
/-- math/bits.Len32 -/
def g258 : GFunc := ⟨1, (.seq (.reg fun _ fr h k =>
  forceG (.int .i64 (.ofNat 0)) fun v => Tr.setK .bad v q2 fr fun f2 =>
  k f2 h)
 (.seq (.seq (.reg fun _ fr h k =>
  obind (pGeq (Tr.get .bad q0 fr) (.int .u32 (.ofNat 65536))) fun v0 =>
  forceG v0 fun v => Tr.setK .bad v q4 fr fun f4 =>
  k f4 h)
 (.cond 4 q4 (.seq (.reg fun _ fr h k =>
  obind (pShr (Tr.get .bad q0 fr) (.int .u64 (.ofNat 16))) fun v0 =>
  forceG v0 fun v => Tr.setK .bad v q0 fr fun f0 =>
  k f0 h)
 (.reg fun _ fr h k =>
  forceG (.int .i64 (.ofNat 16)) fun v => Tr.setK .bad v q2 fr fun f2 =>
  k f2 h))
 .skip))
 (.seq (.seq (.reg fun _ fr h k =>
  obind (pGeq (Tr.get .bad q0 fr) (.int .u32 (.ofNat 256))) fun v0 =>
  forceG v0 fun v => Tr.setK .bad v q8 fr fun f8 =>
  k f8 h)
 (.cond 8 q8 (.seq (.reg fun _ fr h k =>
  obind (pShr (Tr.get .bad q0 fr) (.int .u64 (.ofNat 8))) fun v0 =>
  forceG v0 fun v => Tr.setK .bad v q0 fr fun f0 =>
  k f0 h)
 (.reg fun _ fr h k =>
  obind (pAdd (Tr.get .bad q2 fr) (.int .i64 (.ofNat 8))) fun v0 =>
  forceG v0 fun v => Tr.setK .bad v q2 fr fun f2 =>
  k f2 h))
 .skip))
 (.seq (.reg fun _ fr h k =>
  obind (pConv .u8 (Tr.get .bad q0 fr)) fun v0 =>
  obind (pIdxStr (.str 256 1013866857139168856493015739252390649739422828853819106890363778118420553376247557433637691341895324351018602695588957474325319502760499485336098898398377509666851054660423406800006203933793007272033180812049178612605246075062580585469430410618860250057463399279570354286669047577758927328864388992123306212451509403152394148136105363817402562688186708175358218852349079190158732807302672745370040257219644697201681238697346923541678507645485296520536209706771857694240900605172937619415410180424934769249448772944216470541052485265558808433676546390051204254346932932316488017972311616136051587427851453983453479168) v0) fun v1 =>
  obind (pConv .i64 v1) fun v2 =>
  obind (pAdd (Tr.get .bad q2 fr) v2) fun v3 =>
  forceG v3 fun v => Tr.setK .bad v q2 fr fun f2 =>
  k f2 h)
 .ret)))), resF [.t 2]⟩
theorem g258_ok : Comp Tryz.prog Tryz.f258 1 [0, 2, 4, 8] g258 := ⟨_, [.t 2], rfl, by kernel_rfl, by decide, by kernel_rfl, by kernel_rfl, rfl, rfl⟩
/-- math/bits.Len64 -/
def g259 : GFunc := ⟨1, (.seq (.reg fun _ fr h k =>
  forceG (.int .i64 (.ofNat 0)) fun v => Tr.setK .bad v q2 fr fun f2 =>
  k f2 h)
 (.seq (.seq (.reg fun _ fr h k =>
  obind (pGeq (Tr.get .bad q0 fr) (.int .u64 (.ofNat 4294967296))) fun v0 =>
  forceG v0 fun v => Tr.setK .bad v q4 fr fun f4 =>
  k f4 h)
 (.cond 4 q4 (.seq (.reg fun _ fr h k =>
  obind (pShr (Tr.get .bad q0 fr) (.int .u64 (.ofNat 32))) fun v0 =>
  forceG v0 fun v => Tr.setK .bad v q0 fr fun f0 =>
  k f0 h)
 (.reg fun _ fr h k =>
  forceG (.int .i64 (.ofNat 32)) fun v => Tr.setK .bad v q2 fr fun f2 =>
  k f2 h))
 .skip))
 (.seq (.seq (.reg fun _ fr h k =>
  obind (pGeq (Tr.get .bad q0 fr) (.int .u64 (.ofNat 65536))) fun v0 =>
  forceG v0 fun v => Tr.setK .bad v q8 fr fun f8 =>
  k f8 h)
 (.cond 8 q8 (.seq (.reg fun _ fr h k =>
  obind (pShr (Tr.get .bad q0 fr) (.int .u64 (.ofNat 16))) fun v0 =>
  forceG v0 fun v => Tr.setK .bad v q0 fr fun f0 =>
  k f0 h)
 (.reg fun _ fr h k =>
  obind (pAdd (Tr.get .bad q2 fr) (.int .i64 (.ofNat 16))) fun v0 =>
  forceG v0 fun v => Tr.setK .bad v q2 fr fun f2 =>
  k f2 h))
 .skip))
 (.seq (.seq (.reg fun _ fr h k =>
  obind (pGeq (Tr.get .bad q0 fr) (.int .u64 (.ofNat 256))) fun v0 =>
  forceG v0 fun v => Tr.setK .bad v q14 fr fun f14 =>
  k f14 h)
 (.cond 14 q14 (.seq (.reg fun _ fr h k =>
  obind (pShr (Tr.get .bad q0 fr) (.int .u64 (.ofNat 8))) fun v0 =>
  forceG v0 fun v => Tr.setK .bad v q0 fr fun f0 =>
  k f0 h)
 (.reg fun _ fr h k =>
  obind (pAdd (Tr.get .bad q2 fr) (.int .i64 (.ofNat 8))) fun v0 =>
  forceG v0 fun v => Tr.setK .bad v q2 fr fun f2 =>
  k f2 h))
 .skip))
 (.seq (.reg fun _ fr h k =>
  obind (pConv .u8 (Tr.get .bad q0 fr)) fun v0 =>
  obind (pIdxStr (.str 256 1013866857139168856493015739252390649739422828853819106890363778118420553376247557433637691341895324351018602695588957474325319502760499485336098898398377509666851054660423406800006203933793007272033180812049178612605246075062580585469430410618860250057463399279570354286669047577758927328864388992123306212451509403152394148136105363817402562688186708175358218852349079190158732807302672745370040257219644697201681238697346923541678507645485296520536209706771857694240900605172937619415410180424934769249448772944216470541052485265558808433676546390051204254346932932316488017972311616136051587427851453983453479168) v0) fun v1 =>
  obind (pConv .i64 v1) fun v2 =>
  obind (pAdd (Tr.get .bad q2 fr) v2) fun v3 =>
  forceG v3 fun v => Tr.setK .bad v q2 fr fun f2 =>
  k f2 h)
 .ret))))), resF [.t 2]⟩
theorem g259_ok : Comp Tryz.prog Tryz.f259 1 [0, 2, 4, 8, 14] g259 := ⟨_, [.t 2], rfl, by kernel_rfl, by decide, by kernel_rfl, by kernel_rfl, rfl, rfl⟩
/-- slices.IndexFunc[[]pianola/ir.Op,pianola/ir.Op] -/
def g260 : GFunc := ⟨2, (.seq (.reg fun _ fr h k =>
  forceG (.int .i64 (.ofNat 0)) fun v => Tr.setK .bad v q4 fr fun f4 =>
  k f4 h)
 (.seq (.seq (.reg fun _ fr h k =>
  obind (pLenS (Tr.get .bad q0 fr)) fun v0 =>
  forceG v0 fun v => Tr.setK .bad v q7 fr fun f7 =>
  forceG (.int .i64 (.ofNat 0)) fun v => Tr.setK .bad v q8 f7 fun f8 =>
  k f8 h)
 (.block 0 (.loop (.seq (.reg fun _ fr h k =>
  obind (pLss (Tr.get .bad q8 fr) (Tr.get .bad q7 fr)) fun v0 =>
  forceG v0 fun v => Tr.setK .bad v q9 fr fun f9 =>
  k f9 h)
 (.seq (.cond 9 q9 .skip
 (.exit 0))
 (.seq (.block 1 (.seq (.reg fun _ fr h k =>
  forceG (Tr.get .bad q8 fr) fun v => Tr.setK .bad v q5 fr fun f5 =>
  k f5 h)
 (.seq (.reg fun call fr h k =>
  obind (pIdxS 5 (Tr.get .bad q0 fr) (Tr.get .bad q5 fr)) fun v0 =>
  obind (rLdN 5 v0 h) fun v1 =>
  callF call (Tr.get .bad q1 fr) [v1] h fun v2 h3 =>
  forceG v2 fun v => Tr.setK .bad v q16 fr fun f16 =>
  k f16 h3)
 (.cond 16 q16 (.seq (.reg fun _ fr h k =>
  forceG (Tr.get .bad q5 fr) fun v => Tr.setK .bad v q4 fr fun f4 =>
  k f4 h)
 .ret)
 .skip))))
 (.reg fun _ fr h k =>
  obind (pAdd (Tr.get .bad q8 fr) (.int .i64 (.ofNat 1))) fun v0 =>
  forceG v0 fun v => Tr.setK .bad v q8 fr fun f8 =>
  k f8 h)))))))
 (.seq (.reg fun _ fr h k =>
  forceG (.int .i64 (.negSucc 0)) fun v => Tr.setK .bad v q4 fr fun f4 =>
  k f4 h)
 .ret))), resF [.t 4]⟩
theorem g260_ok : Comp Tryz.prog Tryz.f260 2 [4, 5, 7, 8, 9, 16] g260 := ⟨_, [.t 4], rfl, by kernel_rfl, by decide, by kernel_rfl, by kernel_rfl, rfl, rfl⟩
/-- pianola/word.Mul -/
def g261 : GFunc := ⟨3, (.seq (.reg fun _ fr h k =>
  forceG (.int .u32 (.ofNat 0)) fun v => Tr.setK .bad v q6 fr fun f6 =>
  forceG (.int .u32 (.ofNat 0)) fun v => Tr.setK .bad v q7 f6 fun f7 =>
  k f7 h)
 (.seq (.reg fun _ fr h k =>
  obind (pConv .u64 (Tr.get .bad q0 fr)) fun v0 =>
  obind (pConv .u64 (Tr.get .bad q1 fr)) fun v1 =>
  obind (pMul v0 v1) fun v2 =>
  forceG v2 fun v => Tr.setK .bad v q8 fr fun f8 =>
  k f8 h)
 (.seq (.seq (.reg fun _ fr h k =>
  forceG (Tr.get .bad q2 fr) fun v => Tr.setK .bad v q14 fr fun f14 =>
  k f14 h)
 (.cond 14 q14 (.reg fun _ fr h k =>
  obind (pConv .i32 (Tr.get .bad q0 fr)) fun v0 =>
  obind (pConv .i64 v0) fun v1 =>
  obind (pConv .i32 (Tr.get .bad q1 fr)) fun v2 =>
  obind (pConv .i64 v2) fun v3 =>
  obind (pMul v1 v3) fun v4 =>
  obind (pConv .u64 v4) fun v5 =>
  forceG v5 fun v => Tr.setK .bad v q8 fr fun f8 =>
  k f8 h)
 .skip))
 (.seq (.reg fun _ fr h k =>
  obind (pShr (Tr.get .bad q8 fr) (.int .u64 (.ofNat 32))) fun v0 =>
  obind (pConv .u32 v0) fun v1 =>
  obind (pConv .u32 (Tr.get .bad q8 fr)) fun v2 =>
  forceG v1 fun v => Tr.setK .bad v q6 fr fun f6 =>
  forceG v2 fun v => Tr.setK .bad v q7 f6 fun f7 =>
  k f7 h)
 .ret)))), resF [.t 6, .t 7]⟩
theorem g261_ok : Comp Tryz.prog Tryz.f261 3 [6, 7, 8, 14] g261 := ⟨_, [.t 6, .t 7], rfl, by kernel_rfl, by decide, by kernel_rfl, by kernel_rfl, rfl, rfl⟩
/-- pianola/word.Div -/
def g262 : GFunc := ⟨3, (.seq (.reg fun _ fr h k =>
  forceG (.int .u32 (.ofNat 0)) fun v => Tr.setK .bad v q6 fr fun f6 =>
  forceG (.int .u32 (.ofNat 0)) fun v => Tr.setK .bad v q7 f6 fun f7 =>
  k f7 h)
 (.seq (.block 0 (.seq (.reg fun _ fr h k =>
  obind (pEql (Tr.get .bad q1 fr) (.int .u32 (.ofNat 0))) fun v0 =>
  forceG v0 fun v => Tr.setK .bad v q10 fr fun f10 =>
  k f10 h)
 (.cond 10 q10 (.seq (.reg fun _ fr h k =>
  forceG (.int .u32 (.ofNat 4294967295)) fun v => Tr.setK .bad v q6 fr fun f6 =>
  forceG (Tr.get .bad q0 fr) fun v => Tr.setK .bad v q7 f6 fun f7 =>
  k f7 h)
 .ret)
 (.seq (.reg fun _ fr h k =>
  obind (pNot (Tr.get .bad q2 fr)) fun v0 =>
  forceG v0 fun v => Tr.setK .bad v q14 fr fun f14 =>
  k f14 h)
 (.cond 14 q14 (.seq (.reg fun _ fr h k =>
  obind (pQuo (Tr.get .bad q0 fr) (Tr.get .bad q1 fr)) fun v0 =>
  obind (pRem (Tr.get .bad q0 fr) (Tr.get .bad q1 fr)) fun v1 =>
  forceG v0 fun v => Tr.setK .bad v q6 fr fun f6 =>
  forceG v1 fun v => Tr.setK .bad v q7 f6 fun f7 =>
  k f7 h)
 .ret)
 .skip)))))
 (.seq (.reg fun _ fr h k =>
  obind (pConv .i32 (Tr.get .bad q0 fr)) fun v0 =>
  obind (pConv .i64 v0) fun v1 =>
  obind (pConv .i32 (Tr.get .bad q1 fr)) fun v2 =>
  obind (pConv .i64 v2) fun v3 =>
  forceG v1 fun v => Tr.setK .bad v q8 fr fun f8 =>
  forceG v3 fun v => Tr.setK .bad v q9 f8 fun f9 =>
  k f9 h)
 (.seq (.reg fun _ fr h k =>
  obind (pQuo (Tr.get .bad q8 fr) (Tr.get .bad q9 fr)) fun v0 =>
  obind (pConv .u32 v0) fun v1 =>
  obind (pRem (Tr.get .bad q8 fr) (Tr.get .bad q9 fr)) fun v2 =>
  obind (pConv .u32 v2) fun v3 =>
  forceG v1 fun v => Tr.setK .bad v q6 fr fun f6 =>
  forceG v3 fun v => Tr.setK .bad v q7 f6 fun f7 =>
  k f7 h)
 .ret)))), resF [.t 6, .t 7]⟩
theorem g262_ok : Comp Tryz.prog Tryz.f262 3 [6, 7, 8, 9, 10, 14] g262 := ⟨_, [.t 6, .t 7], rfl, by kernel_rfl, by decide, by kernel_rfl, by kernel_rfl, rfl, rfl⟩
/-- pianola/ir.of -/
def g263 : GFunc := ⟨3, (.seq (.reg fun _ fr h k =>
  obind2 (nBox (Tr.get .bad q0 fr) h) fun v0 h1 =>
  forceG v0 fun v => Tr.setK .bad v q3 fr fun f3 =>
  forceG (.int .u32 (.ofNat 0)) fun v => Tr.setK .bad v q6 f3 fun f6 =>
  k f6 h1)
 (.seq (.seq (.reg fun _ fr h k =>
  obind (pFa 0 (Tr.get .bad q3 fr)) fun v0 =>
  obind (rLd1 v0 h) fun v1 =>
  forceG v1 fun v => Tr.setK .bad v q8 fr fun f8 =>
  k f8 h)
 (.block 0 (.seq (.reg fun _ fr h k =>
  obind (pEql (Tr.get .bad q8 fr) (.int .i64 (.ofNat 1))) fun v0 =>
  forceG v0 fun v => Tr.setK .bad v q9 fr fun f9 =>
  k f9 h)
 (.cond 9 q9 (.seq (.reg fun _ fr h k =>
  obind (pFa 4 (Tr.get .bad q3 fr)) fun v0 =>
  obind (rLd1 v0 h) fun v1 =>
  forceG v1 fun v => Tr.setK .bad v q6 fr fun f6 =>
  k f6 h)
 .ret)
 (.seq (.reg fun _ fr h k =>
  obind (pEql (Tr.get .bad q8 fr) (.int .i64 (.ofNat 3))) fun v0 =>
  forceG v0 fun v => Tr.setK .bad v q13 fr fun f13 =>
  k f13 h)
 (.cond 13 q13 (.seq (.reg fun _ fr h k =>
  obind (pAdd (Tr.get .bad q1 fr) (Tr.get .bad q2 fr)) fun v0 =>
  forceG v0 fun v => Tr.setK .bad v q6 fr fun f6 =>
  k f6 h)
 .ret)
 (.seq (.reg fun _ fr h k =>
  obind (pEql (Tr.get .bad q8 fr) (.int .i64 (.ofNat 4))) fun v0 =>
  forceG v0 fun v => Tr.setK .bad v q18 fr fun f18 =>
  k f18 h)
 (.cond 18 q18 (.seq (.reg fun _ fr h k =>
  obind (pSub (Tr.get .bad q1 fr) (Tr.get .bad q2 fr)) fun v0 =>
  forceG v0 fun v => Tr.setK .bad v q6 fr fun f6 =>
  k f6 h)
 .ret)
 (.seq (.reg fun _ fr h k =>
  obind (pEql (Tr.get .bad q8 fr) (.int .i64 (.ofNat 5))) fun v0 =>
  forceG v0 fun v => Tr.setK .bad v q23 fr fun f23 =>
  k f23 h)
 (.cond 23 q23 (.seq (.reg fun _ fr h k =>
  obind (pAnd (Tr.get .bad q1 fr) (Tr.get .bad q2 fr)) fun v0 =>
  forceG v0 fun v => Tr.setK .bad v q6 fr fun f6 =>
  k f6 h)
 .ret)
 (.seq (.reg fun _ fr h k =>
  obind (pEql (Tr.get .bad q8 fr) (.int .i64 (.ofNat 6))) fun v0 =>
  forceG v0 fun v => Tr.setK .bad v q28 fr fun f28 =>
  k f28 h)
 (.cond 28 q28 (.seq (.reg fun _ fr h k =>
  obind (pOr (Tr.get .bad q1 fr) (Tr.get .bad q2 fr)) fun v0 =>
  forceG v0 fun v => Tr.setK .bad v q6 fr fun f6 =>
  k f6 h)
 .ret)
 (.seq (.reg fun _ fr h k =>
  obind (pEql (Tr.get .bad q8 fr) (.int .i64 (.ofNat 7))) fun v0 =>
  forceG v0 fun v => Tr.setK .bad v q33 fr fun f33 =>
  k f33 h)
 (.cond 33 q33 (.seq (.reg fun _ fr h k =>
  obind (pXor (Tr.get .bad q1 fr) (Tr.get .bad q2 fr)) fun v0 =>
  forceG v0 fun v => Tr.setK .bad v q6 fr fun f6 =>
  k f6 h)
 .ret)
 (.seq (.reg fun _ fr h k =>
  obind (pEql (Tr.get .bad q8 fr) (.int .i64 (.ofNat 8))) fun v0 =>
  forceG v0 fun v => Tr.setK .bad v q38 fr fun f38 =>
  k f38 h)
 (.cond 38 q38 (.seq (.reg fun _ fr h k =>
  obind (pOr (Tr.get .bad q1 fr) (Tr.get .bad q2 fr)) fun v0 =>
  obind (pCpl v0) fun v1 =>
  forceG v1 fun v => Tr.setK .bad v q6 fr fun f6 =>
  k f6 h)
 .ret)
 (.seq (.reg fun _ fr h k =>
  obind (pEql (Tr.get .bad q8 fr) (.int .i64 (.ofNat 9))) fun v0 =>
  forceG v0 fun v => Tr.setK .bad v q44 fr fun f44 =>
  k f44 h)
 (.cond 44 q44 (.seq (.reg fun _ fr h k =>
  obind (pAnd (Tr.get .bad q2 fr) (.int .u32 (.ofNat 31))) fun v0 =>
  obind (pShl (Tr.get .bad q1 fr) v0) fun v1 =>
  forceG v1 fun v => Tr.setK .bad v q6 fr fun f6 =>
  k f6 h)
 .ret)
 (.seq (.reg fun _ fr h k =>
  obind (pEql (Tr.get .bad q8 fr) (.int .i64 (.ofNat 10))) fun v0 =>
  forceG v0 fun v => Tr.setK .bad v q50 fr fun f50 =>
  k f50 h)
 (.cond 50 q50 (.seq (.reg fun _ fr h k =>
  obind (pAnd (Tr.get .bad q2 fr) (.int .u32 (.ofNat 31))) fun v0 =>
  obind (pShr (Tr.get .bad q1 fr) v0) fun v1 =>
  forceG v1 fun v => Tr.setK .bad v q6 fr fun f6 =>
  k f6 h)
 .ret)
 (.seq (.reg fun _ fr h k =>
  obind (pEql (Tr.get .bad q8 fr) (.int .i64 (.ofNat 11))) fun v0 =>
  forceG v0 fun v => Tr.setK .bad v q56 fr fun f56 =>
  k f56 h)
 (.cond 56 q56 (.seq (.reg fun call fr h k =>
  obind (pAnd (Tr.get .bad q2 fr) (.int .u32 (.ofNat 31))) fun v0 =>
  obind (pConv .i64 v0) fun v1 =>
  call q239 [(Tr.get .bad q1 fr), v1] h fun v2 h3 =>
  forceG v2 fun v => Tr.setK .bad v q6 fr fun f6 =>
  k f6 h3)
 .ret)
 (.seq (.seq (.reg fun _ fr h k =>
  obind (pEql (Tr.get .bad q8 fr) (.int .i64 (.ofNat 12))) fun v0 =>
  forceG v0 fun v => Tr.setK .bad v q63 fr fun f63 =>
  k f63 h)
 (.cond 63 q63 .skip
 (.reg fun _ fr h k =>
  obind (pEql (Tr.get .bad q8 fr) (.int .i64 (.ofNat 13))) fun v0 =>
  forceG v0 fun v => Tr.setK .bad v q63 fr fun f63 =>
  k f63 h)))
 (.cond 63 q63 (.seq (.reg fun call fr h k =>
  obind (pFa 0 (Tr.get .bad q3 fr)) fun v0 =>
  obind (rLd1 v0 h) fun v1 =>
  obind (pEql v1 (.int .i64 (.ofNat 12))) fun v2 =>
  call q272 [(Tr.get .bad q1 fr), (Tr.get .bad q2 fr), v2] h fun v3 h4 =>
  call q271 [v3] h4 fun v4 h5 =>
  forceG v4 fun v => Tr.setK .bad v q6 fr fun f6 =>
  k f6 h5)
 .ret)
 (.seq (.reg fun _ fr h k =>
  obind (pEql (Tr.get .bad q8 fr) (.int .i64 (.ofNat 14))) fun v0 =>
  forceG v0 fun v => Tr.setK .bad v q73 fr fun f73 =>
  k f73 h)
 (.cond 73 q73 (.seq (.reg fun _ fr h k =>
  obind (pMul (Tr.get .bad q1 fr) (Tr.get .bad q2 fr)) fun v0 =>
  forceG v0 fun v => Tr.setK .bad v q6 fr fun f6 =>
  k f6 h)
 .ret)
 (.seq (.reg fun _ fr h k =>
  obind (pEql (Tr.get .bad q8 fr) (.int .i64 (.ofNat 15))) fun v0 =>
  forceG v0 fun v => Tr.setK .bad v q78 fr fun f78 =>
  k f78 h)
 (.cond 78 q78 (.seq (.reg fun call fr h k =>
  call q273 [(Tr.get .bad q1 fr)] h fun v0 h1 =>
  obind (pConv .u32 v0) fun v1 =>
  forceG v1 fun v => Tr.setK .bad v q6 fr fun f6 =>
  k f6 h1)
 .ret)
 (.seq (.reg fun _ fr h k =>
  obind (pEql (Tr.get .bad q8 fr) (.int .i64 (.ofNat 16))) fun v0 =>
  forceG v0 fun v => Tr.setK .bad v q83 fr fun f83 =>
  k f83 h)
 (.cond 83 q83 (.seq (.reg fun call fr h k =>
  call q274 [(Tr.get .bad q1 fr)] h fun v0 h1 =>
  obind (pConv .u32 v0) fun v1 =>
  forceG v1 fun v => Tr.setK .bad v q6 fr fun f6 =>
  k f6 h1)
 .ret)
 .skip))))))))))))))))))))))))))))))
 (.seq (.reg fun _ fr h k =>
  forceG (Tr.get .bad q1 fr) fun v => Tr.setK .bad v q6 fr fun f6 =>
  k f6 h)
 .ret))), resF [.t 6]⟩
theorem g263_ok : Comp Tryz.prog Tryz.f263 3 [3, 6, 8, 9, 13, 18, 23, 28, 33, 38, 44, 50, 56, 63, 73, 78, 83] g263 := ⟨_, [.t 6], rfl, by kernel_rfl, by decide, by kernel_rfl, by kernel_rfl, rfl, rfl⟩
/-- slices.siftDownOrdered[int] -/
def g265 : GFunc := ⟨4, (.seq (.reg fun _ fr h k =>
  forceG (Tr.get .bad q1 fr) fun v => Tr.setK .bad v q8 fr fun f8 =>
  k f8 h)
 (.block 0 (.loop (.block 1 (.seq (.reg fun _ fr h k =>
  obind (pMul (.int .i64 (.ofNat 2)) (Tr.get .bad q8 fr)) fun v0 =>
  obind (pAdd v0 (.int .i64 (.ofNat 1))) fun v1 =>
  forceG v1 fun v => Tr.setK .bad v q9 fr fun f9 =>
  k f9 h)
 (.seq (.seq (.reg fun _ fr h k =>
  obind (pGeq (Tr.get .bad q9 fr) (Tr.get .bad q2 fr)) fun v0 =>
  forceG v0 fun v => Tr.setK .bad v q16 fr fun f16 =>
  k f16 h)
 (.cond 16 q16 (.exit 0)
 .skip))
 (.seq (.seq (.reg fun call fr h k =>
  obind (pAdd (Tr.get .bad q9 fr) (.int .i64 (.ofNat 1))) fun v0 =>
  obind (pLss v0 (Tr.get .bad q2 fr)) fun v1 =>
  guardC v1 true h (fun k => k (Tr.get .bad q0 fr) h) fun v2 h3 =>
  guardC v1 true h3 (fun k => k (Tr.get .bad q3 fr) h3) fun v3 h4 =>
  guardC v1 true h4 (fun k => k (Tr.get .bad q9 fr) h4) fun v4 h5 =>
  guardC v1 true h5 (fun k => obind (pAdd v3 v4) fun v => k v h5) fun v5 h6 =>
  guardC v1 true h6 (fun k => obind (pIdxS 1 v2 v5) fun v => k v h6) fun v6 h7 =>
  guardC v1 true h7 (fun k => obind (rLd1 v6 h7) fun v => k v h7) fun v7 h8 =>
  guardC v1 true h8 (fun k => k (Tr.get .bad q0 fr) h8) fun v8 h9 =>
  guardC v1 true h9 (fun k => k (Tr.get .bad q3 fr) h9) fun v9 h10 =>
  guardC v1 true h10 (fun k => k (Tr.get .bad q9 fr) h10) fun v10 h11 =>
  guardC v1 true h11 (fun k => obind (pAdd v9 v10) fun v => k v h11) fun v11 h12 =>
  guardC v1 true h12 (fun k => obind (pAdd v11 (.int .i64 (.ofNat 1))) fun v => k v h12) fun v12 h13 =>
  guardC v1 true h13 (fun k => obind (pIdxS 1 v8 v12) fun v => k v h13) fun v13 h14 =>
  guardC v1 true h14 (fun k => obind (rLd1 v13 h14) fun v => k v h14) fun v14 h15 =>
  guardC v1 true h15 (fun k => call q255 [v7, v14] h15 k) fun v15 h16 =>
  obind (pPick v1 v15 (.bool false)) fun v16 =>
  forceG v16 fun v => Tr.setK .bad v q36 fr fun f36 =>
  k f36 h16)
 (.cond 36 q36 (.reg fun _ fr h k =>
  obind (pAdd (Tr.get .bad q9 fr) (.int .i64 (.ofNat 1))) fun v0 =>
  forceG v0 fun v => Tr.setK .bad v q9 fr fun f9 =>
  k f9 h)
 .skip))
 (.seq (.seq (.reg fun call fr h k =>
  obind (pAdd (Tr.get .bad q3 fr) (Tr.get .bad q8 fr)) fun v0 =>
  obind (pIdxS 1 (Tr.get .bad q0 fr) v0) fun v1 =>
  obind (rLd1 v1 h) fun v2 =>
  obind (pAdd (Tr.get .bad q3 fr) (Tr.get .bad q9 fr)) fun v3 =>
  obind (pIdxS 1 (Tr.get .bad q0 fr) v3) fun v4 =>
  obind (rLd1 v4 h) fun v5 =>
  call q255 [v2, v5] h fun v6 h7 =>
  obind (pNot v6) fun v7 =>
  forceG v7 fun v => Tr.setK .bad v q52 fr fun f52 =>
  k f52 h7)
 (.cond 52 q52 .ret
 .skip))
 (.seq (.reg fun _ fr h k =>
  obind (pAdd (Tr.get .bad q3 fr) (Tr.get .bad q8 fr)) fun v0 =>
  obind (pAdd (Tr.get .bad q3 fr) (Tr.get .bad q9 fr)) fun v1 =>
  obind (pAdd (Tr.get .bad q3 fr) (Tr.get .bad q9 fr)) fun v2 =>
  obind (pIdxS 1 (Tr.get .bad q0 fr) v2) fun v3 =>
  obind (rLd1 v3 h) fun v4 =>
  obind (pAdd (Tr.get .bad q3 fr) (Tr.get .bad q8 fr)) fun v5 =>
  obind (pIdxS 1 (Tr.get .bad q0 fr) v5) fun v6 =>
  obind (rLd1 v6 h) fun v7 =>
  obind (pIdxS 1 (Tr.get .bad q0 fr) v0) fun v8 =>
  obind (wSt1 v8 v4 h) fun h10 =>
  obind (pIdxS 1 (Tr.get .bad q0 fr) v1) fun v10 =>
  obind (wSt1 v10 v7 h10) fun h12 =>
  k fr h12)
 (.reg fun _ fr h k =>
  forceG (Tr.get .bad q9 fr) fun v => Tr.setK .bad v q8 fr fun f8 =>
  k f8 h)))))))))), resF []⟩
theorem g265_ok : Comp Tryz.prog Tryz.f265 4 [8, 9, 16, 36, 52] g265 := ⟨_, [], rfl, by kernel_rfl, by decide, by kernel_rfl, by kernel_rfl, rfl, rfl⟩
/-- slices.nextPowerOfTwo -/
def g266 : GFunc := ⟨1, (.seq (.reg fun _ fr h k =>
  forceG (.int .u64 (.ofNat 0)) fun v => Tr.setK .bad v q2 fr fun f2 =>
  k f2 h)
 (.seq (.reg fun call fr h k =>
  obind (pConv .u64 (Tr.get .bad q0 fr)) fun v0 =>
  call q243 [v0] h fun v1 h2 =>
  obind (pShl (.int .u64 (.ofNat 1)) v1) fun v2 =>
  forceG v2 fun v => Tr.setK .bad v q2 fr fun f2 =>
  k f2 h2)
 .ret)), resF [.t 2]⟩
theorem g266_ok : Comp Tryz.prog Tryz.f266 1 [2] g266 := ⟨_, [.t 2], rfl, by kernel_rfl, by decide, by kernel_rfl, by kernel_rfl, rfl, rfl⟩
/-- (*slices.xorshift).Next -/
def g267 : GFunc := ⟨1, (.seq (.reg fun _ fr h k =>
  forceG (.int .u64 (.ofNat 0)) fun v => Tr.setK .bad v q2 fr fun f2 =>
  k f2 h)
 (.seq (.reg fun _ fr h k =>
  obind (pNilck (Tr.get .bad q0 fr)) fun v0 =>
  obind (rLd1 v0 h) fun v1 =>
  obind (pNilck (Tr.get .bad q0 fr)) fun v2 =>
  obind (rLd1 v2 h) fun v3 =>
  obind (pShl v3 (.int .u64 (.ofNat 13))) fun v4 =>
  obind (pXor v1 v4) fun v5 =>
  obind (pNilck (Tr.get .bad q0 fr)) fun v6 =>
  obind (wSt1 v6 v5 h) fun h8 =>
  k fr h8)
 (.seq (.reg fun _ fr h k =>
  obind (pNilck (Tr.get .bad q0 fr)) fun v0 =>
  obind (rLd1 v0 h) fun v1 =>
  obind (pNilck (Tr.get .bad q0 fr)) fun v2 =>
  obind (rLd1 v2 h) fun v3 =>
  obind (pShr v3 (.int .u64 (.ofNat 7))) fun v4 =>
  obind (pXor v1 v4) fun v5 =>
  obind (pNilck (Tr.get .bad q0 fr)) fun v6 =>
  obind (wSt1 v6 v5 h) fun h8 =>
  k fr h8)
 (.seq (.reg fun _ fr h k =>
  obind (pNilck (Tr.get .bad q0 fr)) fun v0 =>
  obind (rLd1 v0 h) fun v1 =>
  obind (pNilck (Tr.get .bad q0 fr)) fun v2 =>
  obind (rLd1 v2 h) fun v3 =>
  obind (pShl v3 (.int .u64 (.ofNat 17))) fun v4 =>
  obind (pXor v1 v4) fun v5 =>
  obind (pNilck (Tr.get .bad q0 fr)) fun v6 =>
  obind (wSt1 v6 v5 h) fun h8 =>
  k fr h8)
 (.seq (.reg fun _ fr h k =>
  obind (pNilck (Tr.get .bad q0 fr)) fun v0 =>
  obind (rLd1 v0 h) fun v1 =>
  forceG v1 fun v => Tr.setK .bad v q2 fr fun f2 =>
  k f2 h)
 .ret))))), resF [.t 2]⟩
theorem g267_ok : Comp Tryz.prog Tryz.f267 1 [2] g267 := ⟨_, [.t 2], rfl, by kernel_rfl, by decide, by kernel_rfl, by kernel_rfl, rfl, rfl⟩
/-- slices.medianAdjacentOrdered[int] -/
def g268 : GFunc := ⟨3, (.seq (.reg fun _ fr h k =>
  forceG (.int .i64 (.ofNat 0)) fun v => Tr.setK .bad v q6 fr fun f6 =>
  k f6 h)
 (.seq (.reg fun call fr h k =>
  obind (pSub (Tr.get .bad q1 fr) (.int .i64 (.ofNat 1))) fun v0 =>
  obind (pAdd (Tr.get .bad q1 fr) (.int .i64 (.ofNat 1))) fun v1 =>
  call q269 [(Tr.get .bad q0 fr), v0, (Tr.get .bad q1 fr), v1, (Tr.get .bad q2 fr)] h fun v2 h3 =>
  forceG v2 fun v => Tr.setK .bad v q6 fr fun f6 =>
  k f6 h3)
 .ret)), resF [.t 6]⟩
theorem g268_ok : Comp Tryz.prog Tryz.f268 3 [6] g268 := ⟨_, [.t 6], rfl, by kernel_rfl, by decide, by kernel_rfl, by kernel_rfl, rfl, rfl⟩
/-- slices.medianOrdered[int] -/
def g269 : GFunc := ⟨5, (.seq (.reg fun _ fr h k =>
  forceG (.int .i64 (.ofNat 0)) fun v => Tr.setK .bad v q10 fr fun f10 =>
  k f10 h)
 (.seq (.reg fun call fr h k =>
  call q276 [(Tr.get .bad q0 fr), (Tr.get .bad q1 fr), (Tr.get .bad q2 fr), (Tr.get .bad q4 fr)] h fun v0 h1 =>
  obind (pExt 0 v0) fun v1 =>
  obind (pExt 1 v0) fun v2 =>
  forceG v1 fun v => Tr.setK .bad v q1 fr fun f1 =>
  forceG v2 fun v => Tr.setK .bad v q2 f1 fun f2 =>
  k f2 h1)
 (.seq (.reg fun call fr h k =>
  call q276 [(Tr.get .bad q0 fr), (Tr.get .bad q2 fr), (Tr.get .bad q3 fr), (Tr.get .bad q4 fr)] h fun v0 h1 =>
  obind (pExt 0 v0) fun v1 =>
  obind (pExt 1 v0) fun v2 =>
  forceG v1 fun v => Tr.setK .bad v q2 fr fun f2 =>
  forceG v2 fun v => Tr.setK .bad v q3 f2 fun f3 =>
  k f3 h1)
 (.seq (.reg fun call fr h k =>
  call q276 [(Tr.get .bad q0 fr), (Tr.get .bad q1 fr), (Tr.get .bad q2 fr), (Tr.get .bad q4 fr)] h fun v0 h1 =>
  obind (pExt 0 v0) fun v1 =>
  obind (pExt 1 v0) fun v2 =>
  forceG v1 fun v => Tr.setK .bad v q1 fr fun f1 =>
  forceG v2 fun v => Tr.setK .bad v q2 f1 fun f2 =>
  k f2 h1)
 (.seq (.reg fun _ fr h k =>
  forceG (Tr.get .bad q2 fr) fun v => Tr.setK .bad v q10 fr fun f10 =>
  k f10 h)
 .ret))))), resF [.t 10]⟩
theorem g269_ok : Comp Tryz.prog Tryz.f269 5 [1, 2, 3, 10] g269 := ⟨_, [.t 10], rfl, by kernel_rfl, by decide, by kernel_rfl, by kernel_rfl, rfl, rfl⟩
/-- cmp.isNaN[int] -/
def g270 : GFunc := ⟨1, (.seq (.reg fun _ fr h k =>
  forceG (.bool false) fun v => Tr.setK .bad v q2 fr fun f2 =>
  k f2 h)
 (.seq (.reg fun _ fr h k =>
  obind (pNeq (Tr.get .bad q0 fr) (Tr.get .bad q0 fr)) fun v0 =>
  forceG v0 fun v => Tr.setK .bad v q2 fr fun f2 =>
  k f2 h)
 .ret)), resF [.t 2]⟩
theorem g270_ok : Comp Tryz.prog Tryz.f270 1 [2] g270 := ⟨_, [.t 2], rfl, by kernel_rfl, by decide, by kernel_rfl, by kernel_rfl, rfl, rfl⟩
/-- pianola/ir.one -/
def g271 : GFunc := ⟨1, (.seq (.reg fun _ fr h k =>
  forceG (.int .u32 (.ofNat 0)) fun v => Tr.setK .bad v q2 fr fun f2 =>
  k f2 h)
 (.seq (.seq (.reg fun _ fr h k =>
  forceG (Tr.get .bad q0 fr) fun v => Tr.setK .bad v q3 fr fun f3 =>
  k f3 h)
 (.cond 3 q3 (.seq (.reg fun _ fr h k =>
  forceG (.int .u32 (.ofNat 1)) fun v => Tr.setK .bad v q2 fr fun f2 =>
  k f2 h)
 .ret)
 .skip))
 (.seq (.reg fun _ fr h k =>
  forceG (.int .u32 (.ofNat 0)) fun v => Tr.setK .bad v q2 fr fun f2 =>
  k f2 h)
 .ret))), resF [.t 2]⟩
theorem g271_ok : Comp Tryz.prog Tryz.f271 1 [2, 3] g271 := ⟨_, [.t 2], rfl, by kernel_rfl, by decide, by kernel_rfl, by kernel_rfl, rfl, rfl⟩
/-- pianola/word.Less -/
def g272 : GFunc := ⟨3, (.seq (.reg fun _ fr h k =>
  forceG (.bool false) fun v => Tr.setK .bad v q6 fr fun f6 =>
  k f6 h)
 (.seq (.seq (.reg fun _ fr h k =>
  forceG (Tr.get .bad q2 fr) fun v => Tr.setK .bad v q7 fr fun f7 =>
  k f7 h)
 (.cond 7 q7 (.seq (.reg fun _ fr h k =>
  obind (pConv .i32 (Tr.get .bad q0 fr)) fun v0 =>
  obind (pConv .i32 (Tr.get .bad q1 fr)) fun v1 =>
  obind (pLss v0 v1) fun v2 =>
  forceG v2 fun v => Tr.setK .bad v q6 fr fun f6 =>
  k f6 h)
 .ret)
 .skip))
 (.seq (.reg fun _ fr h k =>
  obind (pLss (Tr.get .bad q0 fr) (Tr.get .bad q1 fr)) fun v0 =>
  forceG v0 fun v => Tr.setK .bad v q6 fr fun f6 =>
  k f6 h)
 .ret))), resF [.t 6]⟩
theorem g272_ok : Comp Tryz.prog Tryz.f272 3 [6, 7] g272 := ⟨_, [.t 6], rfl, by kernel_rfl, by decide, by kernel_rfl, by kernel_rfl, rfl, rfl⟩
/-- pianola/word.Clz -/
def g273 : GFunc := ⟨1, (.seq (.reg fun _ fr h k =>
  forceG (.int .i64 (.ofNat 0)) fun v => Tr.setK .bad v q2 fr fun f2 =>
  k f2 h)
 (.seq (.reg fun call fr h k =>
  call q277 [(Tr.get .bad q0 fr)] h fun v0 h1 =>
  forceG v0 fun v => Tr.setK .bad v q2 fr fun f2 =>
  k f2 h1)
 .ret)), resF [.t 2]⟩
theorem g273_ok : Comp Tryz.prog Tryz.f273 1 [2] g273 := ⟨_, [.t 2], rfl, by kernel_rfl, by decide, by kernel_rfl, by kernel_rfl, rfl, rfl⟩
/-- pianola/word.Clo -/
def g274 : GFunc := ⟨1, (.seq (.reg fun _ fr h k =>
  forceG (.int .i64 (.ofNat 0)) fun v => Tr.setK .bad v q2 fr fun f2 =>
  k f2 h)
 (.seq (.reg fun call fr h k =>
  obind (pCpl (Tr.get .bad q0 fr)) fun v0 =>
  call q277 [v0] h fun v1 h2 =>
  forceG v1 fun v => Tr.setK .bad v q2 fr fun f2 =>
  k f2 h2)
 .ret)), resF [.t 2]⟩
theorem g274_ok : Comp Tryz.prog Tryz.f274 1 [2] g274 := ⟨_, [.t 2], rfl, by kernel_rfl, by decide, by kernel_rfl, by kernel_rfl, rfl, rfl⟩
/-- slices.order2Ordered[int] -/
def g276 : GFunc := ⟨4, (.seq (.reg fun _ fr h k =>
  forceG (.int .i64 (.ofNat 0)) fun v => Tr.setK .bad v q8 fr fun f8 =>
  forceG (.int .i64 (.ofNat 0)) fun v => Tr.setK .bad v q9 f8 fun f9 =>
  k f9 h)
 (.seq (.seq (.reg fun call fr h k =>
  obind (pIdxS 1 (Tr.get .bad q0 fr) (Tr.get .bad q2 fr)) fun v0 =>
  obind (rLd1 v0 h) fun v1 =>
  obind (pIdxS 1 (Tr.get .bad q0 fr) (Tr.get .bad q1 fr)) fun v2 =>
  obind (rLd1 v2 h) fun v3 =>
  call q255 [v1, v3] h fun v4 h5 =>
  forceG v4 fun v => Tr.setK .bad v q18 fr fun f18 =>
  k f18 h5)
 (.cond 18 q18 (.seq (.reg fun _ fr h k =>
  obind (pNilck (Tr.get .bad q3 fr)) fun v0 =>
  obind (rLd1 v0 h) fun v1 =>
  obind (pAdd v1 (.int .i64 (.ofNat 1))) fun v2 =>
  obind (pNilck (Tr.get .bad q3 fr)) fun v3 =>
  obind (wSt1 v3 v2 h) fun h5 =>
  k fr h5)
 (.seq (.reg fun _ fr h k =>
  forceG (Tr.get .bad q2 fr) fun v => Tr.setK .bad v q8 fr fun f8 =>
  forceG (Tr.get .bad q1 fr) fun v => Tr.setK .bad v q9 f8 fun f9 =>
  k f9 h)
 .ret))
 .skip))
 (.seq (.reg fun _ fr h k =>
  forceG (Tr.get .bad q1 fr) fun v => Tr.setK .bad v q8 fr fun f8 =>
  forceG (Tr.get .bad q2 fr) fun v => Tr.setK .bad v q9 f8 fun f9 =>
  k f9 h)
 .ret))), resF [.t 8, .t 9]⟩
theorem g276_ok : Comp Tryz.prog Tryz.f276 4 [8, 9, 18] g276 := ⟨_, [.t 8, .t 9], rfl, by kernel_rfl, by decide, by kernel_rfl, by kernel_rfl, rfl, rfl⟩
/-- math/bits.LeadingZeros32 -/
def g277 : GFunc := ⟨1, (.seq (.reg fun _ fr h k =>
  forceG (.int .i64 (.ofNat 0)) fun v => Tr.setK .bad v q2 fr fun f2 =>
  k f2 h)
 (.seq (.reg fun call fr h k =>
  call q258 [(Tr.get .bad q0 fr)] h fun v0 h1 =>
  obind (pSub (.int .i64 (.ofNat 32)) v0) fun v1 =>
  forceG v1 fun v => Tr.setK .bad v q2 fr fun f2 =>
  k f2 h1)
 .ret)), resF [.t 2]⟩
theorem g277_ok : Comp Tryz.prog Tryz.f277 1 [2] g277 := ⟨_, [.t 2], rfl, by kernel_rfl, by decide, by kernel_rfl, by kernel_rfl, rfl, rfl⟩
end
end Go.Ev
