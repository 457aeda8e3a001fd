/-
  'Rows.LawS930019QABWholeSaid' (textwrap.LawS930019QABWhole): the row out of the law's walk (YmwhbbLawWalk). The frame is the guide's for a law over a slice, turned to a slice of strings ('open_strings').
-/
import Derived.Test.YmwhbbLawWalk
import Derived.ProofKit
import Derived.SliceStrings
import Derived.OpenShut
import Derived.ChangeOld
import Derived.Carry
namespace Go.Proofs.Ymwhbb.lawS930019QABWhole
open Go.ChangeShapes Go.WideShapes Go.ChangeAt Go.RowKit

theorem own : ownKnob Ybbv.prog.godebug = none := by kernel_rfl
theorem laidOut : laidOutB Ybbv.prog = true := by kernel_rfl

set_option maxRecDepth 100000 in
theorem lifted (os : Os) (started : os.Started) (H : Type) (enc : TypeId × Value → H) :
    ReturnsInHanded {} Ybbv.checked os 4 .any (Rows.lawS930019QABWholeSpec.pre6 enc Ybbv.prog Ybbv.f4 Rows.lawS930019QABWholeRow.domain false) (Rows.lawS930019QABWholeSpec.post enc Ybbv.prog Ybbv.f4 false true false false) := by
  refine returnsInHanded_of_change (C := Ybbv.checked) own started (by kernel_rfl) Ybbv.func4
    (ChangeSpec.witness6 (enc := enc) (C := Ybbv.checked) false ⟨#[], #[.slice none 0 0], []⟩ 8 (by kernel_rfl) (by kernel_rfl) (by kernel_rfl) (by kernel_rfl)) ?_
  intro W base args ds gs before hval0 hW hcnd _
  have hval : ∀ (j : Nat) t v, Ybbv.f4.params[j]? = some t → args[j]? = some v → Value.okWide Ybbv.prog W .any base t v := hval0
  have hW' := hW
  obtain ⟨p, q, hA0, hV, rfl, hfz, hnd⟩ := hW
  have hA : DataW.TrodAll enc Ybbv.prog W 0 (fun _ => true) true Ybbv.f4.params.toList args.toList ds p := hA0
  rw [Ybbv.params4] at hA hval
  obtain ⟨v0, vs0, d0, ds0, p0, q0, hargs, rfl, rfl, h0, r0⟩ := trodAll_cons hA
  obtain ⟨rfl, rfl, rfl⟩ := trodAll_nil r0
  obtain rfl : args = #[v0] := by cases args; simp_all
  obtain ⟨rfl, rfl⟩ := trodVars_none hV
  obtain ⟨a0, len0, cap0, rfl⟩ := okWide_slice Ybbv.underlying23 (hval 0 23 v0 rfl rfl)
  have k0 := h0
  have lt0 : ∀ x ∈ p0, x.block < W.heap.size := by obtain ⟨m, hm⟩ := k0; exact DataW.trod_lt m _ _ _ hm
  obtain ⟨ss, w0, hm0⟩ : ∃ ss, IsStrs W a0 len0 ss ∧ len0 ≤ maxLen := by
    obtain ⟨fuel, hf⟩ := h0
    rcases open_strings Ybbv.underlying23 Ybbv.underlying9 (by kernel_rfl) hf with ⟨hcs, _⟩ | ⟨x, l, c, zs, hcs, _, hl, hm, hz, _, hcell, _⟩
    · simp [Value.cells] at hcs
      obtain ⟨rfl, rfl, rfl⟩ := hcs
      exact ⟨[], fun h => absurd h (Nat.lt_irrefl _), Nat.zero_le _⟩
    · simp [Value.cells] at hcs
      obtain ⟨rfl, rfl, rfl⟩ := hcs
      simp only [if_true] at hz
      refine ⟨zs, fun hp => ?_, Nat.le_trans hl hm⟩
      obtain ⟨b, off, spot⟩ := x
      have hc0 := hcell 0 (by omega)
      have hspot : spot = none := by simpa [Addr.add] using World.cell?_spot hc0
      subst hspot
      refine ⟨b, off, rfl, ?_, fun i hi => ?_⟩
      · have := World.block_lt_of_cell? W _ hc0
        rwa [add_plain] at this
      · have := hcell i (by omega)
        rwa [add_plain] at this
  clear hA0 hval0
  refine (law_walk a0 len0 cap0 ss W w0 hm0).mono fun e W' ⟨he, bel⟩ => ?_
  subst he
  exact ⟨_, rfl, _, _, _, [], _, [], hW', trodAll_mk1 (shut_bool Ybbv.underlying4 _), (trodAll_cons_mk (Below.trod laidOut (by kernel_rfl) (of_decide_eq_true (by kernel_rfl)) k0 bel lt0) trodAll_mk0), rfl, bel.frame _, fun h => by cases h⟩

theorem over : Rows.lawS930019QABWholeRow.holds Ybbv.pinned (OpenSpec.ofChange Rows.lawS930019QABWholeSpec) :=
  OpenClaim.holds_of_wide 4 Ybbv.f4 rfl rfl rfl rfl rfl rfl rfl ⟨rfl, rfl, rfl, rfl, rfl⟩ rfl rfl rfl rfl rfl (by kernel_rfl) Ybbv.func4 (by kernel_rfl)
    (of_decide_eq_true (by kernel_rfl)) (by unfold Func.isWrapper; first | (rw [if_pos (by decide +kernel)]; kernel_rfl) | (rw [if_neg (by decide +kernel)]; exact ⟨rfl, rfl⟩))
    (fun os started H enc _ => lifted os started H enc)

/-- THE STATEMENT. -/
theorem proved : Rows.LawS930019QABWholeSaid := over
#print axioms proved
end Go.Proofs.Ymwhbb.lawS930019QABWhole
