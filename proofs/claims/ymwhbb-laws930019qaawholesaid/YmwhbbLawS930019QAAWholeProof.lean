/-
  'Rows.LawS930019QAAWholeSaid' (textwrap.LawS930019QAAWhole): the frame is the guide's shell for this function; the walk is filled in: five cases (32, 9, 10, 13, any other byte), each walked whole, both callees entered in place.
-/
import Derived.Test.YmwhbbRows
import Derived.WalkKit
import Derived.ProofKit
import Derived.OpenShut
import Derived.ShutString
namespace Go.Proofs.Ymwhbb.lawS930019QAAWhole
open Go.ChangeShapes Go.WideShapes Go.ChangeAt Go.RowKit
open Go.ChangeMaps (open_string shut_string)
set_option linter.unusedVariables false      -- a walk need not use every 'w<i>' (that an integer argument fits its kind)

theorem own : ownKnob Ybbv.prog.godebug = none := by kernel_rfl

/-! ### STEP 1: THE WALK: the Go text returns true. 'Grown w w'': the world has at most new blocks (Derived/RowKit3.lean). Part the cases AHEAD of 'go_enter' where a test parts the walk; take each callee by a contract of your own. -/
theorem walk (a0 : Int) (w0 : (Lit.int .u8 a0).wf = true) (w : World) :
    Calls Ybbv.prog 3 #[.int .u8 a0] w fun e w' => e = .returned (.bool true) ∧ Grown w w' := by
  by_cases h32 : a0 = 32
  · subst h32
    go_enter Ybbv.func3, Ybbv.ntmps3
    go_wp2
    go_ret
    exact ⟨rfl, Grown.refl _⟩
  by_cases h9 : a0 = 9
  · subst h9
    go_enter Ybbv.func3, Ybbv.ntmps3
    go_wp2
    go_ret
    exact ⟨rfl, Grown.refl _⟩
  by_cases h10 : a0 = 10
  · subst h10
    go_enter Ybbv.func3, Ybbv.ntmps3
    go_wp2
    go_ret
    exact ⟨rfl, Grown.refl _⟩
  by_cases h13 : a0 = 13
  · subst h13
    go_enter Ybbv.func3, Ybbv.ntmps3
    go_wp2
    go_ret
    exact ⟨rfl, Grown.refl _⟩
  have b32 : (a0 == 32) = false := beq_eq_false_iff_ne.2 h32
  have b9 : (a0 == 9) = false := beq_eq_false_iff_ne.2 h9
  have b10 : (a0 == 10) = false := beq_eq_false_iff_ne.2 h10
  have b13 : (a0 == 13) = false := beq_eq_false_iff_ne.2 h13
  clear h32 h9 h10 h13
  go_enter Ybbv.func3, Ybbv.ntmps3
  go_wp2
  go_ret
  exact ⟨rfl, Grown.refl _⟩

/-! ### THE ROW's STEP: WRITTEN OUT: LEAVE IT -/
set_option maxRecDepth 100000 in
theorem lifted (os : Os) (started : os.Started) (H : Type) (enc : TypeId × Value → H) :
    ReturnsInHanded {} Ybbv.checked os 3 .any (Rows.lawS930019QAAWholeSpec.pre6 enc Ybbv.prog Ybbv.f3 Rows.lawS930019QAAWholeRow.domain false) (Rows.lawS930019QAAWholeSpec.post enc Ybbv.prog Ybbv.f3 false true false false) := by
  refine returnsInHanded_of_change (C := Ybbv.checked) own started (by kernel_rfl) Ybbv.func3
    (ChangeSpec.witness6 (enc := enc) (C := Ybbv.checked) false ⟨#[], #[.int .u8 0], []⟩ 8 (by kernel_rfl) (by kernel_rfl) (by kernel_rfl) (by kernel_rfl)) ?_
  intro W base args ds gs before hval0 hW hcnd _
  have hval : ∀ (j : Nat) t v, Ybbv.f3.params[j]? = some t → args[j]? = some v → Value.okWide Ybbv.prog W .any base t v := hval0
  have hW' := hW
  obtain ⟨p, q, hA0, hV, rfl, hfz, hnd⟩ := hW
  have hA : DataW.TrodAll enc Ybbv.prog W 0 (fun _ => true) true Ybbv.f3.params.toList args.toList ds p := hA0
  rw [Ybbv.params3] at hA hval
  obtain ⟨v0, vs0, d0, ds0, p0, q0, hargs, rfl, rfl, h0, r0⟩ := trodAll_cons hA
  obtain ⟨rfl, rfl, rfl⟩ := trodAll_nil r0
  obtain rfl : args = #[v0] := by cases args; simp_all
  obtain ⟨rfl, rfl⟩ := trodVars_none hV
  obtain ⟨a0, rfl, rfl, rfl, w0⟩ := open_int Ybbv.underlying5 (hval 0 5 v0 rfl rfl) h0
  clear hA0 hval0
  simp only [List.append_nil] at hW'
  refine (walk a0 w0 W).mono fun e W' ⟨he, hg⟩ => ?_
  subst he
  exact ⟨_, rfl, post_of_same (pa := []) (pv := []) hW' (fun _ _ _ => (trodAll_cons_mk (shut_bool Ybbv.underlying4 _) trodAll_mk0)) (fun sp _ => (trodAll_cons_mk (shut_int Ybbv.underlying5 w0) trodAll_mk0)) (fun _ _ => rfl) rfl
    (hg.frame _) hg.2.1 (ok_one (by kernel_rfl) rfl (okWide_bool_mk Ybbv.underlying4 _))⟩

theorem over : Rows.lawS930019QAAWholeRow.holds Ybbv.pinned (OpenSpec.ofChange Rows.lawS930019QAAWholeSpec) :=
  OpenClaim.holds_of_wide 3 Ybbv.f3 rfl rfl rfl rfl rfl rfl rfl ⟨rfl, rfl, rfl, rfl, rfl⟩ rfl rfl rfl rfl rfl (by kernel_rfl) Ybbv.func3 (by kernel_rfl)
    (of_decide_eq_true (by kernel_rfl)) (by unfold Func.isWrapper; first | (rw [if_pos (by decide +kernel)]; kernel_rfl) | (rw [if_neg (by decide +kernel)]; exact ⟨rfl, rfl⟩))
    (fun os started H enc _ => lifted os started H enc)

/-- ████ THE STATEMENT ████ -/
theorem proved : Rows.LawS930019QAAWholeSaid :=
  over
#print axioms proved
end Go.Proofs.Ymwhbb.lawS930019QAAWhole
