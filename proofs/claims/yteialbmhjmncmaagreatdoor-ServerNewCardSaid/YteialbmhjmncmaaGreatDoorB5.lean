/- "bothy/bothylaw30.ServerNew": whatever it is called with, it returns true, and what it was called with reads as before. The conditions are the row's own: the two tables of unicode/utf8 that it lists hold what the program's text lays. -/
import Derived.Test.YteialbmhjmncmaaGreatDoorW0
import Derived.Test.YteialbmhjmncmaaGreatDoorP3
import Derived.Test.YteialbmhjmncmaaGreatDoorCards
import Derived.Test.YteialbmhjmncmaaGreatDoorTie
import Derived.ProofKit
import Derived.OpenShut
import Derived.LaidMore
import Derived.Lay
import Derived.Carry
import Derived.SevenTiedAt
import Derived.Stop.Joined
namespace Go.Proofs.YteialbmhjmncmaaGreatDoor
open Go Go.ChangeShapes Go.WideShapes Go.ChangeAt Go.RowKit

theorem own : ownKnob Tryz.prog.godebug = none := by kernel_rfl
theorem laidOut : laidOutB Tryz.prog = true := by kernel_rfl
theorem inStruct : ∃ fs, Tryz.prog.underlying 23 = some (.struct fs) := ⟨_, Tryz.underlying23⟩
theorem inSize : Tryz.prog.cellsOf 23 = 4 := by kernel_rfl

set_option maxRecDepth 100000 in
theorem inTypes : Tryz.prog.cellTypes Tryz.prog.depth 23 = some [3, 3, 3, 3] := by kernel_rfl

/-- The call, whatever the argument's cells hold. -/
theorem walk {cs : Array Value} {W V : World} {base : Nat} (h : Row.okWide Tryz.prog V .any base 23 cs) (hn : cs.size = 4) :
    Calls Tryz.prog 3 #[.agg cs] W fun e W' => e = .returned (.bool true) ∧ Below W.heap.size W W' := by
  obtain ⟨q, o, b, m, rfl⟩ := Abs.row_ints4 h inTypes Tryz.underlying3 hn
  refine (Abs.all_walk (c := Abs.Tryzc3) (Abs.Tryzrec3 (100000 + 3) (1000 + 5)) (x := .y (.v (.bool true))) (Abs.new_all 100000 1000 q o b m) Abs.c3p3 (w := W) (vs := #[.agg #[.int .i64 q, .int .i64 o, .int .i64 b, .int .i64 m]]) ⟨⟨_, rfl, ⟨rfl, rfl, rfl, rfl, trivial⟩⟩, trivial⟩).mono fun e W' ⟨⟨v, _, e1, e2⟩, hb⟩ => ?_
  subst e1
  obtain rfl : v = .bool true := e2
  exact ⟨rfl, hb⟩

set_option maxRecDepth 100000 in
theorem lifted (os : Os) (started : os.Started) (H : Type) (enc : TypeId × Value → H) :
    ReturnsInHanded {} Tryz.checked os 3 .any (fun w args => (Rows.serverNewSpec.pre enc Tryz.prog Tryz.f3 Rows.serverNewRow.domain false w args ∧ laidMetH Tryz.prog Rows.serverNewRow.laid w) ∧ sizedMet enc Tryz.prog Tryz.f3 (OpenSpec.ofChange Rows.serverNewSpec) false w args)
      (Rows.serverNewSpec.post enc Tryz.prog Tryz.f3 false true false false) := by
  refine returnsInHanded_of_change_and (C := Tryz.checked) (X := fun w _ => laidMetH Tryz.prog Rows.serverNewRow.laid w) (fun _ _ _ hh h => h.of_heap hh) own started (by kernel_rfl) Tryz.func3
    (ChangeSpec.witness_shaped (enc := enc) (C := Tryz.checked) (os := os) (X := fun w _ => laidMetH Tryz.prog Rows.serverNewRow.laid w) false (World.laidAll Tryz.prog os Rows.serverNewRow.laid) #[.agg #[.int .i64 (0), .int .i64 (0), .int .i64 (0), .int .i64 (0)]] 8 (World.laidAll_os _ _ _)
      (World.shaped_of_ZipB (by kernel_rfl) (by kernel_rfl)) (by kernel_rfl) (by kernel_rfl) (by kernel_rfl)
      (by rw [MakeChecks.laidMetH_plain _ _ _ (by kernel_rfl)]; exact laidMet_laidAll _ (by kernel_rfl) (by kernel_rfl))) ?_
  intro W base args ds gs before hval0 hW hc _ hL _
  have hval : ∀ (j : Nat) t v, Tryz.f3.params[j]? = some t → args[j]? = some v → Value.okWide Tryz.prog W .any base t v := hval0
  have hW' := hW
  obtain ⟨p, q, hA0, hV, rfl, _, _⟩ := hW
  have hA : DataW.TrodAll enc Tryz.prog W 0 (fun _ => true) true Tryz.f3.params.toList args.toList ds p := hA0
  rw [Tryz.params3] at hA hval
  obtain ⟨v0, d0, rfl, rfl, h0⟩ := trodAll_one hA
  obtain ⟨rfl, rfl⟩ := trodVars_none hV
  obtain ⟨fs, hfs⟩ := inStruct
  have hv0 : Value.okWide Tryz.prog W .any base 23 v0 := hval 0 23 v0 rfl rfl
  obtain ⟨cs, rfl, hsz, hrow⟩ : ∃ cs, v0 = .agg cs ∧ cs.size = Tryz.prog.cellsOf 23 ∧ Row.okWide Tryz.prog W .any base 23 cs := by
    unfold Value.okWide at hv0
    rw [hfs] at hv0
    exact hv0
  have k0 := h0
  have lt0 : ∀ x ∈ p, x.block < W.heap.size := by obtain ⟨m, hm⟩ := k0; exact DataW.trod_lt m _ _ _ hm
  refine (walk (W := W) hrow (hsz.trans inSize)).mono fun e W' ⟨he, bel⟩ => ?_
  subst he
  exact ⟨_, rfl, _, _, _, [], _, [], hW', trodAll_mk1 (shut_bool Tryz.underlying4 _), trodAll_mk1 (Below.trod laidOut (by kernel_rfl) (of_decide_eq_true (by kernel_rfl)) k0 bel lt0), rfl, bel.frame _, fun h => by cases h⟩

set_option maxRecDepth 100000 in
set_option maxHeartbeats 0 in
theorem facts : joinedFacts Tryz.pinned.checked.prog 3 Tryz.f3 Rows.serverNewSpec Rows.serverNewRow = true := by
  delta joinedFacts
  iterate 31 (refine Abs.and_both ?_ ?_)
  all_goals as_aux_lemma => kernel_rfl
theorem noGo : Tryz.pinned.checked.prog.funcs.any Func.goes = false := by kernel_rfl
theorem row_holds : Rows.ServerNewSaid :=
  OpenClaim.holds_of_wide 3 Tryz.f3 rfl rfl rfl rfl rfl rfl rfl ⟨rfl, rfl, rfl, rfl, rfl⟩ rfl rfl rfl rfl rfl (by kernel_rfl) Tryz.func3 facts
    (of_decide_eq_true (by kernel_rfl)) (by unfold Func.isWrapper; first | (rw [if_pos (by decide +kernel)]; kernel_rfl) | (rw [if_neg (by decide +kernel)]; exact ⟨rfl, rfl⟩))
    (fun os started H enc _ => lifted os started H enc)

/-- The tied card. -/
theorem card_holds : Rows.ServerNewCardSaid :=
  Claim7.holds_tied_plain_at .later [] [.data, .pinned] true (true, "9a177f747ee95750b3d6c53e5221ca5e6449f178772933475edb2910ec5a5cf6") false row_holds (fun _ h => by cases h) (by kernel_rfl) (fun _ h => by cases h) serverNew_row_tie rfl ⟨rfl, rfl⟩ (by kernel_rfl) rfl
    (fun f fn hf hfn => by
      obtain rfl : f = 3 := Option.some.inj ((show Tryz.prog.funcNamed "bothy/bothylaw30.ServerNew" = some 3 by kernel_rfl).symm.trans hf) |>.symm
      obtain rfl : fn = Tryz.f3 := (Option.some.inj (Tryz.func3.symm.trans hfn)).symm
      exact ⟨by kernel_rfl, fun j t ht => by
        rw [Tryz.params3] at ht
        have hm : t ∈ [23] := by simpa using Array.mem_of_getElem? ht
        have hall : ([23].all fun u => !Tryz.prog.wantsStandIn u) = true := by kernel_rfl
        exact (show Tryz.prog.wantsStandIn t = false by simpa using List.all_eq_true.1 hall t hm)⟩)
    (Abs.goes_none noGo rfl)
#print axioms card_holds
end Go.Proofs.YteialbmhjmncmaaGreatDoor
