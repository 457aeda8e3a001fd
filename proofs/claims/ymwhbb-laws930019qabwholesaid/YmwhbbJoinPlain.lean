/-
  THE PLAIN PART of 'Rows.LawS930019QABWholeSaid': what JoinWords and the law's own model compute, as bytes; and the small facts on worlds that the walks want. No program in sight.
-/
import Derived.WalkKit
import Derived.Lib.AppendStr
import Derived.Lib.SlBytesRow
import Derived.Laws.CopyOwn
namespace Go.Proofs.Ymwhbb
open Go.RowKit

/-- What is written ahead of word k: one space, but for the first word. -/
def sepB (k : Nat) : List UInt8 := if k = 0 then [] else [32]

/-- The first k words, one space between neighbours, as bytes. -/
def jn (ss : List ByteArray) : Nat → List UInt8
  | 0 => []
  | k + 1 => jn ss k ++ (sepB k ++ (ss.getD k ByteArray.empty).data.toList)

/-- The same as a Go string. -/
def jb (ss : List ByteArray) (k : Nat) : ByteArray := ⟨(jn ss k).toArray⟩

/-- Bytes as cells. -/
def cellsB (l : List UInt8) : List Value := l.map fun b => Value.int .u8 b.toNat

theorem cellsB_length (l : List UInt8) : (cellsB l).length = l.length := by simp [cellsB]
theorem cellsB_append (l m : List UInt8) : cellsB (l ++ m) = cellsB l ++ cellsB m := by simp [cellsB]
theorem strCells_eq (s : ByteArray) : Lib.strCells s = cellsB s.data.toList := rfl
theorem size_toList (s : ByteArray) : s.data.toList.length = s.size := by simp
theorem jb_size (ss : List ByteArray) (k : Nat) : (jb ss k).size = (jn ss k).length := by simp [jb, ByteArray.size]

theorem jn_first (ss : List ByteArray) : jn ss 1 = (ss.getD 0 ByteArray.empty).data.toList := by simp [jn, sepB]
theorem jn_later (ss : List ByteArray) (k : Nat) (hk : 0 < k) : jn ss (k + 1) = jn ss k ++ [32] ++ (ss.getD k ByteArray.empty).data.toList := by
  simp [jn, sepB, Nat.pos_iff_ne_zero.1 hk]

/-- No more than k words of a megabyte and as many spaces. -/
theorem jn_le (ss : List ByteArray) (len : Nat) (h : ∀ i, i < len → (ss.getD i ByteArray.empty).size ≤ 1048576) : ∀ k, k ≤ len → (jn ss k).length ≤ k * 1048577 := by
  intro k
  induction k with
  | zero => intro _; simp [jn]
  | succ k ih =>
    intro hk
    have h1 := ih (by omega)
    have h2 := h k (by omega)
    have h3 : (sepB k).length ≤ 1 := by unfold sepB; split <;> simp
    have h4 := size_toList (ss.getD k ByteArray.empty)
    simp only [jn, List.length_append]
    omega

/-- A slice of strings, as the walks are told of it: where it has an element it leads to a row of cells that hold the strings. -/
def IsStrs (w : World) (ao : Option Addr) (len : Nat) (ss : List ByteArray) : Prop :=
  0 < len → ∃ b off, ao = some ⟨b, off, none⟩ ∧ b < w.heap.size ∧ ∀ i, i < len → w.cell? ⟨b, off + i, none⟩ = some (.string (ss.getD i ByteArray.empty))

theorem IsStrs.later {w w' : World} {ao : Option Addr} {len : Nat} {ss : List ByteArray} (h : IsStrs w ao len ss) (hb : Below w.heap.size w w') : IsStrs w' ao len ss := by
  intro hp
  obtain ⟨b, off, h1, h2, h3⟩ := h hp
  exact ⟨b, off, h1, Nat.lt_of_lt_of_le h2 hb.size, fun i hi => (hb.cell (p := ⟨b, off + i, none⟩) h2).trans (h3 i hi)⟩

/-- Where an owned row of bytes leads: a slice of that many elements; its cells hold the bytes. -/
theorem own_bytes {w : World} {base e : Nat} {v : Value} {l : List UInt8} (h : w.ownsRow base e 1 v l.length (cellsB l)) :
    ∃ vo cap, v = .slice vo l.length cap ∧ (l.length = 0 ∨ ∃ g, vo = some ⟨g, 0, none⟩ ∧ base ≤ g ∧ g < w.heap.size ∧ Lib.Bytes w g 0 ⟨l.toArray⟩) := by
  rcases h.2 with ⟨hv, hn⟩ | ⟨g, cap, cur, hv, hb, hg, hnc, hcm, hcs, htake⟩
  · exact ⟨none, 0, by rw [hv, hn], .inl hn⟩
  · refine ⟨some ⟨g, 0, none⟩, cap, hv, .inr ⟨g, rfl, hb, (Array.getElem?_eq_some_iff.1 hg).1, ?_⟩⟩
    intro i hi
    have hil : i < l.length := by simpa [ByteArray.size] using hi
    subst hv
    rw [Nat.zero_add, h.cellAt i (by omega)]
    simp [cellsB, List.getElem?_map, List.getElem?_eq_getElem hil]
    rfl

/-- 'string(buf)' of an owned row of bytes. -/
theorem run_convert_own {P : Program} {w : World} {base src dst e : Nat} {v : Value} {l : List UInt8} (hs : P.underlying src = some (.slice e)) (he : P.underlying e = some (.int .u8)) (hd : P.underlying dst = some .string)
    (h : w.ownsRow base e 1 v l.length (cellsB l)) : (convert src dst v).run P w = .ok (.string ⟨l.toArray⟩) w := by
  have hz : (⟨l.toArray⟩ : ByteArray).size = l.length := by simp [ByteArray.size]
  rcases h.2 with ⟨hv, hn⟩ | ⟨g, cap, cur, hv, hb, hg, hnc, hcm, hcs, htake⟩
  · have : l = [] := List.eq_nil_of_length_eq_zero hn
    subst this
    subst hv
    rw [run_convert_bytes_string w src dst e none 0 0 hs he hd]
    simp [Conv.bytesToString]
    rfl
  · obtain ⟨vo, cap', hv', hor⟩ := own_bytes h
    rw [hv] at hv'
    simp only [Value.slice.injEq, true_and] at hv'
    obtain ⟨rfl, rfl⟩ := hv'
    by_cases h0 : l.length = 0
    · have : l = [] := List.eq_nil_of_length_eq_zero h0
      subst this
      subst hv
      have hB : Lib.Bytes w g 0 ByteArray.empty := fun i hi => by simp at hi
      exact Lib.run_convert_whole w src e dst hs he hd g 0 ByteArray.empty hB cap
    · rcases hor with hor | ⟨g', hg', _, _, hB⟩
      · exact absurd hor h0
      · simp only [Option.some.injEq, Addr.mk.injEq, and_true] at hg'
        subst hg'
        have hr := Lib.run_convert_whole w src e dst hs he hd g 0 ⟨l.toArray⟩ hB cap
        rw [hz] at hr
        rw [hv]
        exact hr

end Go.Proofs.Ymwhbb
