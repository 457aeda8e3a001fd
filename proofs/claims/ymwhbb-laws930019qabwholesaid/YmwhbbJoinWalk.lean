/-
  'Rows.LawS930019QABWholeSaid': JoinWords, by its contract: it answers the words joined by single spaces, and writes nothing that was there.
-/
import Derived.Test.YmwhbbRows
import Derived.Test.YmwhbbJoinPlain
namespace Go.Proofs.Ymwhbb
open Go.RowKit

theorem Ybbv.info5 : (Ybbv.prog.info? 5).map (fun i => (i.zero, i.size, i.bytes)) = some (some (.int .u8 0), 1, 1) := by kernel_rfl

/-- What an append of a string's bytes does to the relation. -/
theorem join_word {w wr w1 : World} {l : List UInt8} {v v1 : Value} {s : ByteArray} (hown : wr.ownsRow w.heap.size 5 1 v l.length (cellsB l)) (hnx : Below w.heap.size w wr)
    (hown1 : w1.ownsRow w.heap.size 5 1 v1 (l.length + s.size) (cellsB l ++ Lib.strCells s)) (hg : wr.grownBy w1 v.ownBlock) :
    w1.ownsRow w.heap.size 5 1 v1 (l ++ s.data.toList).length (cellsB (l ++ s.data.toList)) ∧ Below w.heap.size w w1 := by
  refine ⟨?_, hnx.grown hg hnx.size (fun k hk => (hown.lt k hk).1)⟩
  rw [cellsB_append, ← strCells_eq, List.length_append, size_toList]
  exact hown1

/-- What an append of one byte does to the relation. -/
theorem join_byte {w wr w1 : World} {l : List UInt8} {v v1 : Value} {c : UInt8} {o : Obj} (hown : wr.ownsRow w.heap.size 5 1 v l.length (cellsB l)) (hnx : Below w.heap.size w wr)
    (hown1 : w1.ownsRow w.heap.size 5 1 v1 (l.length + 1) (cellsB l ++ [.int .u8 c.toNat])) (hg : (wr.alloc o).grownBy w1 v.ownBlock) :
    w1.ownsRow w.heap.size 5 1 v1 (l ++ [c]).length (cellsB (l ++ [c])) ∧ Below w.heap.size w w1 := by
  have hsz := hnx.size
  refine ⟨?_, (hnx.alloc hsz o).grown hg (by simp; omega) (fun k hk => (hown.lt k hk).1)⟩
  rw [cellsB_append, List.length_append]
  exact hown1

theorem join_sep {w wr w1 : World} {l : List UInt8} {v v1 : Value} {o : Obj} (hown : wr.ownsRow w.heap.size 5 1 v l.length (cellsB l)) (hnx : Below w.heap.size w wr)
    (hown1 : w1.ownsRow w.heap.size 5 1 v1 (l.length + 1) (cellsB l ++ [.int .u8 32])) (hg : (wr.alloc o).grownBy w1 v.ownBlock) :
    w1.ownsRow w.heap.size 5 1 v1 (l ++ [32]).length (cellsB (l ++ [32])) ∧ Below w.heap.size w w1 :=
  join_byte (c := 32) hown hnx hown1 hg

set_option maxHeartbeats 1600000 in
set_option maxRecDepth 100000 in
theorem join_any (ao : Option Addr) (len cap : Nat) (ss : List ByteArray) (w : World) (hlen : len ≤ 1024)
    (HS : Hid (∀ i, i < len → (ss.getD i ByteArray.empty).size ≤ 1048576)) (hs : IsStrs w ao len ss) :
    Calls Ybbv.prog 7 #[.slice ao len cap] w fun e w' => e = .returned (.string (jb ss len)) ∧ Below w.heap.size w w' := by
  obtain ⟨i0, hi, hz0, hz1, hz2⟩ := info_parts Ybbv.info5
  go_enter Ybbv.func7, Ybbv.ntmps7
  go_wp2
  go_loopw [3, 8] (fun v i wr => ∃ k : Nat, k ≤ len ∧ i = .int .i64 k ∧ wr.ownsRow w.heap.size 5 1 v (jn ss k).length (cellsB (jn ss k)) ∧ Below w.heap.size w wr) (fun _ i _ => len - (intOf i).toNat)
  case atStart => exact ⟨0, Nat.zero_le _, rfl, World.ownsRow_nil _ _ _ _, Below.refl _ _⟩
  case round =>
    obtain ⟨k, hk, rfl, hown, hnx⟩ := hrel
    have hjl := jn_le ss len HS.out k hk
    by_cases hlt : k < len
    · obtain ⟨b, off, hao, hbB, hc⟩ := hs (by omega)
      subst hao
      obtain ⟨s, hsk⟩ : ∃ s, s = ss.getD k ByteArray.empty := ⟨_, rfl⟩
      have hcx : wr.cell? ⟨b, off + k, none⟩ = some (.string s) := by rw [hsk]; exact (hnx.cell (p := ⟨b, off + k, none⟩) hbB).trans (hc k hlt)
      have hsl : s.size ≤ 1048576 := by rw [hsk]; exact HS.out k hlt
      have HK : Hid (s = ss.getD k ByteArray.empty) := hsk
      have hwsz := hnx.size
      clear hsk hc hs
      by_cases hkp : (0 : Int) < (k : Int)
      · go_wp2_with (first
          | (at_builtin; refine wpList_append_own _ rfl _ _ 25 rfl w.heap.size 5 i0 (.int .u8 0) 1 1 Ybbv.underlying25 hi hz0 hz1 hz2 rfl (by decide) _ _ _ rfl (hown.alloc _) ⟨wr.heap.size, 0, none⟩ 1 1 [.int .u8 32] rfl rfl ?c1 ?c2 ?c3 ?c4 ?c5 ?_))
        case c1 =>
          intro j u hj
          match j, hj with
          | 0, hj => simp at hj; subst hj; simp [Addr.add]
        case c2 => intro u hu; simp at hu; subst hu; rfl
        case c3 => unfold maxLen; omega
        case c4 => omega
        case c5 => simp; omega
        intro v1 w1 hown1 hgrow1 _
        have R := join_sep hown hnx hown1 hgrow1
        obtain ⟨hown2, hnx2⟩ := R
        have hcx2 : w1.cell? ⟨b, off + k, none⟩ = some (.string s) := (hnx2.cell (p := ⟨b, off + k, none⟩) hbB).trans ((hnx.cell (p := ⟨b, off + k, none⟩) hbB).symm.trans hcx)
        have hwsz2 := hnx2.size
        clear hown1 hgrow1 hown hcx
        go_wp2_with (at_builtin; refine Lib.wpList_append_own_string _ rfl _ _ 25 9 rfl w.heap.size 5 i0 Ybbv.underlying25 Ybbv.underlying9 hi hz0 hz1 hz2 _ _ _ rfl hown2 s rfl ?d1 ?d2 ?d3 ?_)
        case d1 => unfold maxLen; simp; omega
        case d2 => simp; omega
        case d3 => exact hwsz2
        intro v2 w2 hown3 hgrow3 _
        rw [show (jn ss k).length + 1 = (jn ss k ++ [32]).length by simp] at hown3
        have R := join_word hown2 hnx2 hown3 hgrow3
        rw [show jn ss k ++ [32] ++ s.data.toList = jn ss (k + 1) by rw [jn_later ss k (by omega), HK.out]] at R
        clear hown3 hgrow3 hown2 hcx2
        go_wp2
        go_roundw
        case rel => exact ⟨k + 1, by omega, by go_num, R.1, R.2⟩
        case measure => simp [intOf]; omega
      · go_wp2_with (at_builtin; refine Lib.wpList_append_own_string _ rfl _ _ 25 9 rfl w.heap.size 5 i0 Ybbv.underlying25 Ybbv.underlying9 hi hz0 hz1 hz2 _ _ _ rfl hown s rfl ?c1 ?c2 ?c3 ?_)
        case c1 => unfold maxLen; omega
        case c2 => omega
        intro v1 w1 hown1 hgrow1 _
        have R := join_word hown hnx hown1 hgrow1
        rw [show jn ss k ++ s.data.toList = jn ss (k + 1) by have h0 : k = 0 := by omega
                                                             subst h0; rw [jn_first, ← HK.out]; rfl] at R
        clear hown1 hgrow1 hown hcx
        go_wp2
        go_roundw
        case rel => exact ⟨k + 1, by omega, by go_num, R.1, R.2⟩
        case measure => simp [intOf]; omega
    · have hke : k = len := by omega
      have hcv := run_convert_own Ybbv.underlying25 Ybbv.underlying5 Ybbv.underlying9 hown
      rw [show (⟨(jn ss k).toArray⟩ : ByteArray) = jb ss len by rw [hke]; rfl] at hcv
      clear hown hjl hke
      go_wp2
      go_ret
      exact ⟨rfl, hnx⟩

end Go.Proofs.Ymwhbb
