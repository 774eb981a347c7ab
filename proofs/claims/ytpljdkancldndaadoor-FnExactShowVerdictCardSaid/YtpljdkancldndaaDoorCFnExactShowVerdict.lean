/- FnExactShowVerdict for every verdict that reads as data, the three library tables standing as the program's text lays them (the card ties them): the law returns true and its argument reads as before. -/
import Derived.Test.YtpljdkancldndaaDoorRows
import Derived.Test.YtpljdkancldndaaDoorTie
import Derived.Test.YtpljdkancldndaaDoorCards
import Derived.Test.YtpljdkancldndaaDoorVFnExactShowVerdict
import Derived.Test.YtpljdkancldndaaDoorOpen
import Derived.WalkKit
import Derived.ProofKit
import Derived.OpenShut
import Derived.LaidMore
import Derived.LaidSub
import Derived.Lib.LaidTab
import Derived.Stop.Joined
import Derived.ChangeOld
import Derived.Below
import Derived.SevenTiedAt
namespace Go.Proofs.YtpljdkancldndaaDoor.fnExactShowVerdict
open Go.ChangeShapes Go.WideShapes Go.ChangeAt Go.RowKit Go.Proofs.YtpljdkancldndaaDoorW.PrintWords Go.Proofs.YtpljdkancldndaaDoor.Open

theorem own : ownKnob Tryd.prog.godebug = none := by kernel_rfl
theorem laidOut : laidOutB Tryd.prog = true := by kernel_rfl

/-- The listed tables. -/
def laid3 : List (String × DataW Unit) := [("math/bits.deBruijn32tab", Rows.laid_math_bits_deBruijn32tab), ("math/bits.deBruijn64tab", Rows.laid_math_bits_deBruijn64tab), ("internal/strconv.uint64pow10", Rows.laid_internal_strconv_uint64pow10)]

theorem door_met (os : Os) (args : Array Value) : laidMetH Tryd.prog laid3 ((World.doorLaid Tryd.prog 24 os).forCall (fun _ _ => 0) ⟨#[], args, []⟩).memory :=
  laidMetH_of_parts3 (fuel := 8) (laidMet_of_run' 8 (by kernel_rfl) (by kernel_rfl)) (by kernel_rfl) (by kernel_rfl)

theorem gT : Tryd.prog.globalNamed "internal/strconv.uint64pow10" = some 0 := by kernel_rfl
theorem gTType : (Tryd.prog.globals[0]?).map (·.type) = some 143 := by kernel_rfl

theorem tab_of_laid {W : World} (h : laidMetH Tryd.prog laid3 W) : Hand.TabH W := by
  rw [MakeChecks.laidMetH_plain _ _ _ (by kernel_rfl)] at h
  exact Lib.tabIs_of_head gT gTType Tryd.underlying143 Tryd.underlying49 (by kernel_rfl) (by kernel_rfl) (h.filter (fun x => x.1 == "internal/strconv.uint64pow10"))

theorem i64_of {n : Int} (h : (Lit.int .i64 n).wf = true) : TFnExactShowVerdict.I64 n := by
  have := bounds_i64 h
  exact ⟨by omega, by omega⟩

open PFnExactShowVerdict in
def kArg : Kd (Int × List S33 × S33 × Bool) := Kd.pair (Kd.int .i64) (Kd.pair (Kd.slice 33 k33) (Kd.pair k33 Kd.bool))
def OkIn (x : PFnExactShowVerdict.S33) : Prop := (Lit.int .i64 x.f0).wf = true ∧ (Lit.int .i64 x.f1).wf = true ∧ (Lit.int .i64 x.f2).wf = true ∧ True
set_option maxRecDepth 100000 in
theorem tellsLine : Tells Tryd.prog 33 PFnExactShowVerdict.k33 OkIn :=
  tells_struct Tryd.underlying33 (by kernel_rfl) (seg_iso (fun x : PFnExactShowVerdict.S33 => (x.f0, x.f1, x.f2, x.f3)) (fun y => ⟨y.1, y.2.1, y.2.2.1, y.2.2.2⟩) (fun _ => rfl)
    (seg_pair (by kernel_rfl) (by kernel_rfl) (tells_int Tryd.underlying2) (seg_pair (by kernel_rfl) (by kernel_rfl) (tells_int Tryd.underlying2) (seg_pair (by kernel_rfl) (by kernel_rfl) (tells_int Tryd.underlying2) (seg_one (by kernel_rfl) (by kernel_rfl) (tells_bool Tryd.underlying4))))))
set_option maxRecDepth 100000 in
theorem tells : Tells Tryd.prog 35 kArg (fun x => (Lit.int .i64 x.1).wf = true ∧ (∀ a ∈ x.2.1, OkIn a) ∧ OkIn x.2.2.1 ∧ True) :=
  tells_struct Tryd.underlying35 (by kernel_rfl) (seg_pair (by kernel_rfl) (by kernel_rfl) (tells_int Tryd.underlying2) (seg_pair (by kernel_rfl) (by kernel_rfl) (tells_slice Tryd.underlying31 (by kernel_rfl) tellsLine) (seg_pair (by kernel_rfl) (by kernel_rfl) tellsLine (seg_one (by kernel_rfl) (by kernel_rfl) (tells_bool Tryd.underlying4)))))

set_option maxRecDepth 100000 in
theorem lifted (os : Os) (started : os.Started) (H : Type) (enc : TypeId × Value → H) :
    ReturnsInHanded {} Tryd.checked os 4 .any (fun w args => (Rows.fnExactShowVerdictSpec.pre enc Tryd.prog Tryd.f4 [] false w args ∧ laidMetH Tryd.prog laid3 w) ∧ sizedMet enc Tryd.prog Tryd.f4 (OpenSpec.ofChange Rows.fnExactShowVerdictSpec) false w args)
      (Rows.fnExactShowVerdictSpec.post enc Tryd.prog Tryd.f4 false true false false) := by
  refine returnsInHanded_of_change_and (C := Tryd.checked) (X := fun w _ => laidMetH Tryd.prog laid3 w) (fun _ _ _ hh h => h.of_heap hh) own started (by kernel_rfl) Tryd.func4
    (ChangeSpec.witness_shaped (enc := enc) (C := Tryd.checked) (os := os) (X := fun w _ => laidMetH Tryd.prog laid3 w) false (World.doorLaid Tryd.prog 24 os) #[.agg #[.int .i64 0, .slice none 0 0, .int .i64 0, .int .i64 0, .int .i64 0, .bool false, .bool false]] 8 rfl (World.shaped_of_RefB (by kernel_rfl) (by kernel_rfl)) (by kernel_rfl) (by kernel_rfl) (by kernel_rfl) (door_met os _)) ?_
  intro W base args ds gs before hval0 hW _ _ hL _
  have hval : ∀ (j : Nat) t v, Tryd.f4.params[j]? = some t → args[j]? = some v → Value.okWide Tryd.prog W .any base t v := hval0
  have hW' := hW
  obtain ⟨p, q, hA0, hV, rfl, hfz, hnd⟩ := hW
  have hA : DataW.TrodAll enc Tryd.prog W 0 (fun _ => true) true Tryd.f4.params.toList args.toList ds p := hA0
  rw [Tryd.params4] at hA hval
  obtain ⟨v0, vs0, d0, ds0, p0, q0, hargs, rfl, rfl, h0, r0⟩ := trodAll_cons hA
  obtain ⟨rfl, rfl, rfl⟩ := trodAll_nil r0
  obtain rfl : args = #[v0] := by cases args; simp_all
  obtain ⟨rfl, rfl⟩ := trodVars_none hV
  have lt0 : ∀ x ∈ p0, x.block < W.heap.size := by obtain ⟨m, hm⟩ := h0; exact DataW.trod_lt m _ _ _ hm
  obtain ⟨cs, rfl, ⟨code, l, ⟨a, b, c, f⟩, acc⟩, hK, hcode, hl, hj, _⟩ := tells_arg Tryd.underlying35 tells (hval 0 35 v0 rfl rfl) h0
  obtain ⟨c0, c1, rfl, rfl, ⟨c2, c3, rfl, ⟨A, cap, rfl, hcap, hC⟩, ⟨c4, c5, rfl, hk, rfl⟩⟩⟩ := hK
  obtain rfl := PFnExactShowVerdict.k33_open hk
  obtain ⟨k, hk⟩ := TFnExactShowVerdict.law code l a b c f acc (i64_of hcode) (fun x hx => ⟨i64_of (hl x hx).1, i64_of (hl x hx).2.1, i64_of (hl x hx).2.2.1⟩) (i64_of hj.1) (i64_of hj.2.1) (i64_of hj.2.2.1) hC.2.1
  refine (PFnExactShowVerdict.laws_FnExactShowVerdict.calls k code A cap l a b c f acc true W hC hcap (tab_of_laid hL) hk).mono fun e W' ⟨he, bel⟩ => ?_
  subst he
  exact ⟨_, rfl, _, _, _, [], _, [], hW', trodAll_mk1 (shut_bool Tryd.underlying4 _), trodAll_cons_mk (Below.trod laidOut (by kernel_rfl) (of_decide_eq_true (by kernel_rfl)) h0 bel lt0) trodAll_mk0, rfl, bel.frame _, fun h => by cases h⟩

theorem over : Rows.FnExactShowVerdictSaid :=
  OpenClaim.holds_of_wide 4 Tryd.f4 rfl rfl rfl rfl rfl rfl rfl ⟨rfl, rfl, rfl, rfl, rfl⟩ rfl rfl rfl rfl rfl (by kernel_rfl) Tryd.func4 (by kernel_rfl)
    (of_decide_eq_true (by kernel_rfl)) (by unfold Func.isWrapper; first | (rw [if_pos (by decide +kernel)]; kernel_rfl) | (rw [if_neg (by decide +kernel)]; exact ⟨rfl, rfl⟩))
    (fun os started H enc _ => lifted os started H enc)

theorem card_holds : Claim7.holds Tryd.pinned (.plain (OpenSpec.ofChange Rows.fnExactShowVerdictSpec)) Rows.fnExactShowVerdictCard :=
  Claim7.holds_tied_plain_at .later [] [.data, .data, .data] true (true, "475e62fac597b1a7f3c364c358c6f4ecf3b8f4c815835af85ebbc97f04107194") false
    over (fun _ h => by cases h) (by kernel_rfl) (fun _ h => by cases h) fnExactShowVerdict_row_tie rfl ⟨rfl, rfl⟩ (by kernel_rfl) rfl
    (fun f fn hf hfn => by
      obtain rfl : f = 4 := Option.some.inj ((show Tryd.prog.funcNamed "loop.example/g00697/laws.FnExactShowVerdict" = some 4 by kernel_rfl).symm.trans hf) |>.symm
      obtain rfl : fn = Tryd.f4 := (Option.some.inj (Tryd.func4.symm.trans hfn)).symm
      exact ⟨by kernel_rfl, fun j t ht => by
        rw [Tryd.params4] at ht
        have hm : t ∈ [35] := by simpa using Array.mem_of_getElem? ht
        have hall : ([35].all fun u => !Tryd.prog.wantsStandIn u) = true := by kernel_rfl
        exact (show Tryd.prog.wantsStandIn t = false by simpa using List.all_eq_true.1 hall t hm)⟩)
    (by kernel_rfl)
end Go.Proofs.YtpljdkancldndaaDoor.fnExactShowVerdict
namespace Go.Proofs.YtpljdkancldndaaDoor
/-- The card, under a short name, for the claim. -/
theorem fnExactShowVerdict_card_holds : Rows.FnExactShowVerdictCardSaid := fnExactShowVerdict.card_holds
#print axioms fnExactShowVerdict_card_holds
end Go.Proofs.YtpljdkancldndaaDoor
