/- Proves the given statement Rows.DecimalsValueCardSaid, whole: for every input the law DecimalsValue returns true and leaves its arguments as they were; the package-level variables start as the program's text lays them, which the card ties. No other condition. The frame is written by the kit's program; the walk is in the texts that are imported. -/
import Derived.Test.YtnoinnninahdiaaDoorRows
import Derived.WalkKit
import Derived.ProofKit
import Derived.OpenShut
import Derived.ShutString
import Derived.Below
import Derived.LaidMore
import Derived.Stop.Joined
import Derived.SevenTiedAt
import Derived.Lay
import Derived.WideKeyPair
import Derived.Test.YtnoinnninahdiaaDoorCards
import Derived.Test.YtnoinnninahdiaaDoorTie
import Derived.Test.YtnoinnninahdiaaDoorDcLV
namespace Go.Proofs.YtnoinnninahdiaaDoor.decimalsValue
open Go.ChangeShapes Go.WideShapes Go.ChangeAt Go.RowKit
open Go.ChangeMaps (open_string shut_string)
set_option linter.unusedVariables false      -- a walk need not use every 'w<i>' (that an integer argument fits its kind)

theorem own : ownKnob Tryd.prog.godebug = none := by kernel_rfl

/-! ### STEP 1: THE WALK: the Go text returns true. 'Grown w w'': the world has at most new blocks (Derived/RowKit3.lean). Part the cases AHEAD of 'go_enter' where a test parts the walk; take each callee by a contract of your own. -/
theorem pairI : WideMaps.ArrKey Tryd.prog 33 21 2 := ⟨Tryd.underlying33, by kernel_rfl, by kernel_rfl, by kernel_rfl⟩
theorem pairU : WideMaps.ArrKey Tryd.prog 34 5 2 := ⟨Tryd.underlying34, by kernel_rfl, by kernel_rfl, by kernel_rfl⟩
theorem walk (a b c d p : Int) (wa : (Lit.int .i32 a).wf = true) (wb : (Lit.int .i32 b).wf = true) (wc : (Lit.int .u8 c).wf = true) (wd : (Lit.int .u8 d).wf = true) (wp : (Lit.int .i16 p).wf = true) (w : World) (hL : laidMetH Tryd.prog Rows.decimalsValueRow.laid w) :
    Calls Tryd.prog 6 #[.agg #[.int .i32 a, .int .i32 b], .agg #[.int .u8 c, .int .u8 d], .int .i16 p] w fun e w' => e = .returned (.bool true) ∧ Below w.heap.size w w' := by
  simp [Lit.wf, IntKind.min, IntKind.max, IntKind.bits, IntKind.signed] at wa wb wc wd wp
  exact valuelaw_walk a b c d p (by omega) (by omega) (by omega) (by omega) (by omega) (by omega) (by omega) (by omega) (by omega) (by omega) w (of_laid rfl hL fun h => by rwa [MakeChecks.laidMetH_plain _ _ _ (by kernel_rfl)] at h)

/-! ### THE ROW's STEP: WRITTEN OUT: LEAVE IT -/
set_option maxRecDepth 100000 in
theorem lifted (os : Os) (started : os.Started) (H : Type) (enc : TypeId × Value → H) :
    ReturnsInHanded {} Tryd.checked os 6 .any (fun w args => (Rows.decimalsValueSpec.pre enc Tryd.prog Tryd.f6 [] false w args ∧ laidMetH Tryd.prog Rows.decimalsValueRow.laid w) ∧ sizedMet enc Tryd.prog Tryd.f6 (OpenSpec.ofChange Rows.decimalsValueSpec) false w args) (Rows.decimalsValueSpec.post enc Tryd.prog Tryd.f6 false true false false) := by
  refine returnsInHanded_of_change_and (C := Tryd.checked) (X := fun w _ => laidMetH Tryd.prog Rows.decimalsValueRow.laid w) (fun _ _ _ hh h => h.of_heap hh) own started (by kernel_rfl) Tryd.func6
    (ChangeSpec.witness_shaped (enc := enc) (C := Tryd.checked) (os := os) (X := fun w _ => laidMetH Tryd.prog Rows.decimalsValueRow.laid w) false (World.laidAll Tryd.prog os Rows.decimalsValueRow.laid) #[.agg #[.int .i32 0, .int .i32 0], .agg #[.int .u8 0, .int .u8 0], .int .i16 0] 8 (World.laidAll_os _ _ _) (World.shaped_of_ZipB (by kernel_rfl) (by kernel_rfl)) (by kernel_rfl) (by kernel_rfl) (by kernel_rfl) (by rw [MakeChecks.laidMetH_plain _ _ _ (by kernel_rfl)]; exact laidMet_laidAll _ (by kernel_rfl) (by kernel_rfl))) ?_
  intro W base args ds gs before hval0 hW _ _ hL _
  have hval : ∀ (j : Nat) t v, Tryd.f6.params[j]? = some t → args[j]? = some v → Value.okWide Tryd.prog W .any base t v := hval0
  have hW' := hW
  obtain ⟨p, q, hA0, hV, rfl, hfz, hnd⟩ := hW
  have hA : DataW.TrodAll enc Tryd.prog W 0 (fun _ => true) true Tryd.f6.params.toList args.toList ds p := hA0
  rw [Tryd.params6] at hA hval
  obtain ⟨v0, vs0, d0, ds0, p0, q0, hargs, rfl, rfl, h0, r0⟩ := trodAll_cons hA
  obtain ⟨v1, vs1, d1, ds1, p1, q1, rfl, rfl, rfl, h1, r1⟩ := trodAll_cons r0
  obtain ⟨v2, vs2, d2, ds2, p2, q2, rfl, rfl, rfl, h2, r2⟩ := trodAll_cons r1
  obtain ⟨rfl, rfl, rfl⟩ := trodAll_nil r2
  obtain rfl : args = #[v0, v1, v2] := by cases args; simp_all
  obtain ⟨rfl, rfl⟩ := trodVars_none hV
  obtain ⟨a, b, rfl, rfl, rfl, wa, wb⟩ := WideMaps.open_pair pairI Tryd.underlying21 (hval 0 33 v0 rfl rfl) h0
  obtain ⟨c, d, rfl, rfl, rfl, wc, wd⟩ := WideMaps.open_pair pairU Tryd.underlying5 (hval 1 34 v1 rfl rfl) h1
  obtain ⟨a2, rfl, rfl, rfl, w2⟩ := open_int Tryd.underlying35 (hval 2 35 v2 rfl rfl) h2
  clear hA0 hval0
  simp only [List.append_nil] at hW'
  refine (walk a b c d a2 wa wb wc wd w2 W hL).mono fun e W' ⟨he, bel⟩ => ?_
  subst he
  exact ⟨_, rfl, _, _, _, [], _, [], hW', (trodAll_cons_mk (shut_bool Tryd.underlying4 _) trodAll_mk0), (trodAll_cons_mk (WideMaps.shut_pair pairI Tryd.underlying21 wa wb) (trodAll_cons_mk (WideMaps.shut_pair pairU Tryd.underlying5 wc wd) (trodAll_cons_mk (shut_int Tryd.underlying35 w2) trodAll_mk0))), rfl, bel.frame _, fun h => by cases h⟩

theorem over : Rows.decimalsValueRow.holds Tryd.pinned (OpenSpec.ofChange Rows.decimalsValueSpec) :=
  OpenClaim.holds_of_wide 6 Tryd.f6 rfl rfl rfl rfl rfl rfl rfl ⟨rfl, rfl, rfl, rfl, rfl⟩ rfl rfl rfl rfl rfl (by kernel_rfl) Tryd.func6 (by kernel_rfl)
    (of_decide_eq_true (by kernel_rfl)) (by unfold Func.isWrapper; first | (rw [if_pos (by decide +kernel)]; kernel_rfl) | (rw [if_neg (by decide +kernel)]; exact ⟨rfl, rfl⟩))
    (fun os started H enc _ => lifted os started H enc)

/-- ████ THE STATEMENT ████ -/
theorem proved : Rows.DecimalsValueCardSaid :=
  Claim7.holds_tied_plain_at .later [] [.data, .data, .data, .data, .sentinel, .sentinel, .pinned] true (true, "e1f48f5e680ec86c6104ecc435fb031ea274bee98aa1e58aa889d7a00f942b71") true
    over (fun _ h => by cases h) (by kernel_rfl) (fun _ h => by cases h) decimalsValue_row_tie rfl ⟨rfl, rfl⟩ (by kernel_rfl) rfl
    (fun f fn hf hfn => by
      obtain rfl : f = 6 := Option.some.inj ((show Tryd.prog.funcNamed "inarch/inarchlaw02.DecimalsValue" = some 6 by kernel_rfl).symm.trans hf) |>.symm
      obtain rfl : fn = Tryd.f6 := (Option.some.inj (Tryd.func6.symm.trans hfn)).symm
      exact ⟨by kernel_rfl, fun j t ht => by
        have hall : (Tryd.f6.params.all fun u => !Tryd.prog.wantsStandIn u) = true := by kernel_rfl
        have hj : j < Tryd.f6.params.size := (Array.getElem?_eq_some_iff.1 ht).1
        have h := (Array.all_eq_true.1 hall) j hj
        have he : Tryd.f6.params[j] = t := (Array.getElem?_eq_some_iff.1 ht).2
        rw [he] at h
        exact (show Tryd.prog.wantsStandIn t = false by simpa using h)⟩)
    (by kernel_rfl)
#print axioms proved
end Go.Proofs.YtnoinnninahdiaaDoor.decimalsValue
