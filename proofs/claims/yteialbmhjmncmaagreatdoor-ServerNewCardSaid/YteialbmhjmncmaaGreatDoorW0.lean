/- server.New: what it gives, whatever numbers it is called with. (Context: awake by its closed run, schema.Plain by a pointer.) -/
import Derived.Test.YteialbmhjmncmaaGreatDoorB4
import Derived.Test.YteialbmhjmncmaaGreatDoorT0
import Derived.Test.YteialbmhjmncmaaGreatDoorP3
namespace Go.Abs
open Go Go.RowKit Go.Proofs
set_option maxRecDepth 100000
set_option linter.unusedSimpArgs false

noncomputable def Tryztab8 : List (List Y × X) := [([], .y (.v (.bool true)))]
theorem TryztabOk8 : MemoOk (Tryzr2.call 8) Tryztab8 := by
  intro e he
  simp only [Tryztab8, List.mem_cons, List.not_mem_nil, or_false] at he
  subst he
  exact ⟨rfl, Tryzrun⟩
theorem Tryzplain : closedPtr (Tryzr2.call 6 [] emptyH) = true := by kernel_rfl
noncomputable def Tryzprim3 (f : FuncId) : Option (List Y → H → Res) := bif Nat.beq f 8 then some (memoP Tryztab8 (Tryzr2.call 8)) else bif Nat.beq f 6 then some blindP else Tryzprim2 f
noncomputable def Tryzc3 : Ctx := { TryzcT with prim := Tryzprim3 }
theorem Tryzprims3 (n : Nat) (w0 : World) : PrimOk (KOf TryzcT) ⟨n, false⟩ w0 Tryz.prog Tryzc3 := by
  intro g p hp
  have hp : Tryzprim3 g = some p := hp
  unfold Tryzprim3 at hp
  rcases prim_split hp with ⟨rfl, rfl⟩ | hp
  · exact memo_ok Tryzrec2 TryztabOk8 n w0
  rcases prim_split hp with ⟨rfl, rfl⟩ | hp
  · exact blind_ok Tryzrec2 Tryzplain n w0
  exact Tryzprims2 n w0 g p hp
theorem Tryzrec3 (fuel k n : Nat) (w0 : World) : RecSound (KOf TryzcT) ⟨n, false⟩ w0 Tryz.prog Tryzc3 (recN Tryzc3 fuel k) := recN_sound (c := Tryzc3) (TryzctxOk.prim _) Tryzmixed (TryzfiOk.prim _) (Tryzprims3 n w0) k
theorem c3ti : Tryzc3.ti = Tryzti := rfl
theorem c3fi : Tryzc3.fi = Tryzfi := rfl
theorem c3p3 : Tryzc3.prim 3 = none := rfl
theorem c3p4 : Tryzc3.prim 4 = none := rfl
theorem c3p5 : Tryzc3.prim 5 = none := rfl
theorem c3p6 : Tryzc3.prim 6 = some blindP := rfl
theorem c3p7 : Tryzc3.prim 7 = none := rfl
theorem c3p9 : Tryzc3.prim 9 = none := rfl
theorem c3p10 : Tryzc3.prim 10 = none := rfl
theorem c3p11 : Tryzc3.prim 11 = none := rfl
theorem c3p12 : Tryzc3.prim 12 = none := rfl
theorem c3p25 : Tryzc3.prim 25 = none := rfl

theorem c3p8 : Tryzc3.prim 8 = some (memoP Tryztab8 (Tryzr2.call 8)) := rfl
theorem memo8 (h : H) : memoP Tryztab8 (Tryzr2.call 8) [] h = .ret (.y (.v (.bool true)), h) := rfl
theorem opq (h : H) : blindP [] h = .ret (.y (.v (.ptr h.next 0)), { h with next := h.next + 1 }) := rfl

set_option maxHeartbeats 4000000 in
theorem bad0 (fuel n : Nat) (q v b m : Int) (h0 : ¬ 1 ≤ q) : A false (fun p => p.1 = .y (.v (.bool true))) ((recN Tryzc3 (fuel+3) (n+5)).call 3 [.agg [.int .i64 q, .int .i64 v, .int .i64 b, .int .i64 m]] emptyH) := by
  simp (dsimp := false) only [go_sem, Nat.reduceEqDiff, Nat.reduceLT, Nat.reduceAdd, Nat.reduceSub, Nat.reduceMul, Nat.reduceLeDiff, Nat.reduceSucc, Int.reduceLT, Int.reduceLE, Int.reduceEq, Int.reduceAdd, Int.reduceNeg, reduceCtorEq, c3ti, c3fi, c3p3, c3p4, c3p5, c3p6, c3p7, c3p8, c3p9, c3p10, c3p11, c3p12, c3p25, Tryz.f3, Tryz.f4, Tryz.f5, Tryz.f7, Tryz.f9, Tryz.f10, opq, memo8, h0]
set_option maxHeartbeats 4000000 in
theorem bad1 (fuel n : Nat) (q v b m : Int) (h0 : 1 ≤ q) (h1 : ¬ q ≤ 1024) : A false (fun p => p.1 = .y (.v (.bool true))) ((recN Tryzc3 (fuel+3) (n+5)).call 3 [.agg [.int .i64 q, .int .i64 v, .int .i64 b, .int .i64 m]] emptyH) := by
  simp (dsimp := false) only [go_sem, Nat.reduceEqDiff, Nat.reduceLT, Nat.reduceAdd, Nat.reduceSub, Nat.reduceMul, Nat.reduceLeDiff, Nat.reduceSucc, Int.reduceLT, Int.reduceLE, Int.reduceEq, Int.reduceAdd, Int.reduceNeg, reduceCtorEq, c3ti, c3fi, c3p3, c3p4, c3p5, c3p6, c3p7, c3p8, c3p9, c3p10, c3p11, c3p12, c3p25, Tryz.f3, Tryz.f4, Tryz.f5, Tryz.f7, Tryz.f9, Tryz.f10, opq, memo8, h0, h1]
set_option maxHeartbeats 4000000 in
theorem bad2 (fuel n : Nat) (q v b m : Int) (h0 : 1 ≤ q) (h1 : q ≤ 1024) (h2 : ¬ 1 ≤ v) : A false (fun p => p.1 = .y (.v (.bool true))) ((recN Tryzc3 (fuel+3) (n+5)).call 3 [.agg [.int .i64 q, .int .i64 v, .int .i64 b, .int .i64 m]] emptyH) := by
  simp (dsimp := false) only [go_sem, Nat.reduceEqDiff, Nat.reduceLT, Nat.reduceAdd, Nat.reduceSub, Nat.reduceMul, Nat.reduceLeDiff, Nat.reduceSucc, Int.reduceLT, Int.reduceLE, Int.reduceEq, Int.reduceAdd, Int.reduceNeg, reduceCtorEq, c3ti, c3fi, c3p3, c3p4, c3p5, c3p6, c3p7, c3p8, c3p9, c3p10, c3p11, c3p12, c3p25, Tryz.f3, Tryz.f4, Tryz.f5, Tryz.f7, Tryz.f9, Tryz.f10, opq, memo8, h0, h1, h2]
set_option maxHeartbeats 4000000 in
theorem bad3 (fuel n : Nat) (q v b m : Int) (h0 : 1 ≤ q) (h1 : q ≤ 1024) (h2 : 1 ≤ v) (h3 : ¬ v ≤ 1048576) : A false (fun p => p.1 = .y (.v (.bool true))) ((recN Tryzc3 (fuel+3) (n+5)).call 3 [.agg [.int .i64 q, .int .i64 v, .int .i64 b, .int .i64 m]] emptyH) := by
  simp (dsimp := false) only [go_sem, Nat.reduceEqDiff, Nat.reduceLT, Nat.reduceAdd, Nat.reduceSub, Nat.reduceMul, Nat.reduceLeDiff, Nat.reduceSucc, Int.reduceLT, Int.reduceLE, Int.reduceEq, Int.reduceAdd, Int.reduceNeg, reduceCtorEq, c3ti, c3fi, c3p3, c3p4, c3p5, c3p6, c3p7, c3p8, c3p9, c3p10, c3p11, c3p12, c3p25, Tryz.f3, Tryz.f4, Tryz.f5, Tryz.f7, Tryz.f9, Tryz.f10, opq, memo8, h0, h1, h2, h3]
set_option maxHeartbeats 4000000 in
theorem bad4 (fuel n : Nat) (q v b m : Int) (h0 : 1 ≤ q) (h1 : q ≤ 1024) (h2 : 1 ≤ v) (h3 : v ≤ 1048576) (h4 : ¬ 1 ≤ b) : A false (fun p => p.1 = .y (.v (.bool true))) ((recN Tryzc3 (fuel+3) (n+5)).call 3 [.agg [.int .i64 q, .int .i64 v, .int .i64 b, .int .i64 m]] emptyH) := by
  simp (dsimp := false) only [go_sem, Nat.reduceEqDiff, Nat.reduceLT, Nat.reduceAdd, Nat.reduceSub, Nat.reduceMul, Nat.reduceLeDiff, Nat.reduceSucc, Int.reduceLT, Int.reduceLE, Int.reduceEq, Int.reduceAdd, Int.reduceNeg, reduceCtorEq, c3ti, c3fi, c3p3, c3p4, c3p5, c3p6, c3p7, c3p8, c3p9, c3p10, c3p11, c3p12, c3p25, Tryz.f3, Tryz.f4, Tryz.f5, Tryz.f7, Tryz.f9, Tryz.f10, opq, memo8, h0, h1, h2, h3, h4]
set_option maxHeartbeats 4000000 in
theorem bad5 (fuel n : Nat) (q v b m : Int) (h0 : 1 ≤ q) (h1 : q ≤ 1024) (h2 : 1 ≤ v) (h3 : v ≤ 1048576) (h4 : 1 ≤ b) (h5 : ¬ b ≤ 65536) : A false (fun p => p.1 = .y (.v (.bool true))) ((recN Tryzc3 (fuel+3) (n+5)).call 3 [.agg [.int .i64 q, .int .i64 v, .int .i64 b, .int .i64 m]] emptyH) := by
  simp (dsimp := false) only [go_sem, Nat.reduceEqDiff, Nat.reduceLT, Nat.reduceAdd, Nat.reduceSub, Nat.reduceMul, Nat.reduceLeDiff, Nat.reduceSucc, Int.reduceLT, Int.reduceLE, Int.reduceEq, Int.reduceAdd, Int.reduceNeg, reduceCtorEq, c3ti, c3fi, c3p3, c3p4, c3p5, c3p6, c3p7, c3p8, c3p9, c3p10, c3p11, c3p12, c3p25, Tryz.f3, Tryz.f4, Tryz.f5, Tryz.f7, Tryz.f9, Tryz.f10, opq, memo8, h0, h1, h2, h3, h4, h5]
set_option maxHeartbeats 4000000 in
theorem bad6 (fuel n : Nat) (q v b m : Int) (h0 : 1 ≤ q) (h1 : q ≤ 1024) (h2 : 1 ≤ v) (h3 : v ≤ 1048576) (h4 : 1 ≤ b) (h5 : b ≤ 65536) (h6 : ¬ 1 ≤ m) : A false (fun p => p.1 = .y (.v (.bool true))) ((recN Tryzc3 (fuel+3) (n+5)).call 3 [.agg [.int .i64 q, .int .i64 v, .int .i64 b, .int .i64 m]] emptyH) := by
  simp (dsimp := false) only [go_sem, Nat.reduceEqDiff, Nat.reduceLT, Nat.reduceAdd, Nat.reduceSub, Nat.reduceMul, Nat.reduceLeDiff, Nat.reduceSucc, Int.reduceLT, Int.reduceLE, Int.reduceEq, Int.reduceAdd, Int.reduceNeg, reduceCtorEq, c3ti, c3fi, c3p3, c3p4, c3p5, c3p6, c3p7, c3p8, c3p9, c3p10, c3p11, c3p12, c3p25, Tryz.f3, Tryz.f4, Tryz.f5, Tryz.f7, Tryz.f9, Tryz.f10, opq, memo8, h0, h1, h2, h3, h4, h5, h6]
set_option maxHeartbeats 4000000 in
theorem bad7 (fuel n : Nat) (q v b m : Int) (h0 : 1 ≤ q) (h1 : q ≤ 1024) (h2 : 1 ≤ v) (h3 : v ≤ 1048576) (h4 : 1 ≤ b) (h5 : b ≤ 65536) (h6 : 1 ≤ m) (h7 : ¬ m ≤ 64) : A false (fun p => p.1 = .y (.v (.bool true))) ((recN Tryzc3 (fuel+3) (n+5)).call 3 [.agg [.int .i64 q, .int .i64 v, .int .i64 b, .int .i64 m]] emptyH) := by
  simp (dsimp := false) only [go_sem, Nat.reduceEqDiff, Nat.reduceLT, Nat.reduceAdd, Nat.reduceSub, Nat.reduceMul, Nat.reduceLeDiff, Nat.reduceSucc, Int.reduceLT, Int.reduceLE, Int.reduceEq, Int.reduceAdd, Int.reduceNeg, reduceCtorEq, c3ti, c3fi, c3p3, c3p4, c3p5, c3p6, c3p7, c3p8, c3p9, c3p10, c3p11, c3p12, c3p25, Tryz.f3, Tryz.f4, Tryz.f5, Tryz.f7, Tryz.f9, Tryz.f10, opq, memo8, h0, h1, h2, h3, h4, h5, h6, h7]
theorem wr1 : IntKind.i64.wrap 1 = 1 := by decide +kernel
theorem wr2 : IntKind.i64.wrap 2 = 2 := by decide +kernel
theorem c3p23 : Tryzc3.prim 23 = some (memoP Tryztab23 (Tryzr1.call 23)) := rfl
theorem memo23 (h : H) : memoP Tryztab23 (Tryzr1.call 23) [.v (.str [])] h = .ret (.y (.v (.bool true)), h) := rfl
set_option maxHeartbeats 4000000 in
theorem good (fuel n : Nat) (q v b : Int) (m : Nat) (h0 : 1 ≤ q) (h1 : q ≤ 1024) (h2 : 1 ≤ v) (h3 : v ≤ 1048576) (h4 : 1 ≤ b) (h5 : b ≤ 65536) (h6 : 1 ≤ (m : Int)) (h7 : (m : Int) ≤ 64) : A false (fun p => p.1 = .y (.v (.bool true))) ((recN Tryzc3 (fuel+3) (n+5)).call 3 [.agg [.int .i64 q, .int .i64 v, .int .i64 b, .int .i64 m]] emptyH) := by
  have c1 : (q < 1) = False := by simp; omega
  have c2 : (1024 < q) = False := by simp; omega
  simp (maxSteps := 5000000) only [go_sem, Nat.reduceEqDiff, Nat.reduceLT, Nat.reduceAdd, Nat.reduceSub, Nat.reduceMul, Nat.reduceLeDiff, Nat.reduceSucc, Int.reduceLT, Int.reduceLE, Int.reduceEq, Int.reduceAdd, Int.reduceNeg, reduceCtorEq, c3ti, c3fi, c3p3, c3p4, c3p5, c3p6, c3p7, c3p8, c3p9, c3p10, c3p11, c3p12, c3p25, Tryz.f3, Tryz.f4, Tryz.f5, Tryz.f7, Tryz.f9, Tryz.f10, Tryz.f11, Tryz.f12, Tryz.f25, opq, memo8, c3p23, memo23, loop_round, loop1Q_normal, loop1Q_exit, loop1Q_ret, h0, h1, h2, h3, h4, h5, h6, h7, c1, c2, wr1, wr2]
  simp only [Bool.and_eq_true, decide_eq_true_eq]
  omega
set_option maxHeartbeats 4000000 in
theorem new_all (fuel n : Nat) (q v b m : Int) : A false (fun p => p.1 = .y (.v (.bool true))) ((recN Tryzc3 (fuel+3) (n+5)).call 3 [.agg [.int .i64 q, .int .i64 v, .int .i64 b, .int .i64 m]] emptyH) := by
  by_cases h0 : 1 ≤ q
  case neg => exact bad0 fuel n q v b m h0
  by_cases h1 : q ≤ 1024
  case neg => exact bad1 fuel n q v b m h0 h1
  by_cases h2 : 1 ≤ v
  case neg => exact bad2 fuel n q v b m h0 h1 h2
  by_cases h3 : v ≤ 1048576
  case neg => exact bad3 fuel n q v b m h0 h1 h2 h3
  by_cases h4 : 1 ≤ b
  case neg => exact bad4 fuel n q v b m h0 h1 h2 h3 h4
  by_cases h5 : b ≤ 65536
  case neg => exact bad5 fuel n q v b m h0 h1 h2 h3 h4 h5
  by_cases h6 : 1 ≤ m
  case neg => exact bad6 fuel n q v b m h0 h1 h2 h3 h4 h5 h6
  by_cases h7 : m ≤ 64
  case neg => exact bad7 fuel n q v b m h0 h1 h2 h3 h4 h5 h6 h7
  obtain ⟨j, rfl⟩ : ∃ j : Nat, m = j := ⟨m.toNat, by omega⟩
  exact good fuel n q v b j h0 h1 h2 h3 h4 h5 h6 h7
end Go.Abs
