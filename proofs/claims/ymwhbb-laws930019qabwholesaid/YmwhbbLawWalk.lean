/-
  'Rows.LawS930019QABWholeSaid': the law's walk: it returns true and writes nothing that was there.
-/
import Derived.Test.YmwhbbModelWalk
import Derived.Deep.QuietTactic
import Derived.BigQuiet
import Derived.WalkSmall
namespace Go.Proofs.Ymwhbb
open Go.RowKit

theorem Ybbv.info9 : (Ybbv.prog.info? 9).map (fun i => (i.zero, i.size, i.bytes)) = some (some (.string ⟨#[]⟩), 1, 16) := by kernel_rfl

/-- The strings as cells. -/
def strRow (ss : List ByteArray) (len : Nat) : List Value := (List.range len).map fun i => Value.string (ss.getD i ByteArray.empty)

theorem strRow_length (ss : List ByteArray) (len : Nat) : (strRow ss len).length = len := by simp [strRow]
theorem strRow_at (ss : List ByteArray) (len i : Nat) (h : i < len) : (strRow ss len)[i]? = some (.string (ss.getD i ByteArray.empty)) := by
  simp [strRow, List.getElem?_map, List.getElem?_range h]
theorem strRow_one (ss : List ByteArray) (len : Nat) : ∀ v ∈ strRow ss len, v.oneCell' = true := by
  intro v hv
  simp only [strRow, List.mem_map] at hv
  obtain ⟨i, _, rfl⟩ := hv
  rfl

/-- A row that 'make' has laid, whole. -/
theorem made_row {w1 : World} {base g len : Nat} {xs : List Value} (h : w1.ownsRow base 9 1 (.slice (some ⟨g, 0, none⟩) len len) len xs) : w1.heap[g]? = some (.cells xs.toArray 9 (0, 0)) := by
  rcases h.2 with ⟨h', _⟩ | ⟨g', cap', cur, h', _, hg, _, _, hcs, htake⟩
  · simp at h'
  · simp only [Value.slice.injEq, Option.some.injEq, Addr.mk.injEq, and_true, true_and] at h'
    obtain ⟨rfl, rfl⟩ := h'
    rw [List.take_of_length_le (by rw [Array.length_toList, hcs]; exact Nat.le_refl _)] at htake
    rw [hg, ← htake]

/-- What copy asks of its source. -/
theorem copy_src {w1 : World} {ao : Option Addr} {len : Nat} {ss : List ByteArray} (h : IsStrs w1 ao len ss) (hp : 0 < len) :
    ∃ ad, ao = some ad ∧ ∀ j v, (strRow ss len)[j]? = some v → w1.cell? (ad.add j) = some v := by
  obtain ⟨b, off, h1, _, h3⟩ := h hp
  refine ⟨_, h1, fun j v hv => ?_⟩
  have hj : j < len := by
    have := (List.getElem?_eq_some_iff.1 hv).1
    rwa [strRow_length] at this
  rw [strRow_at ss len j hj] at hv
  rw [show (⟨b, off, none⟩ : Addr).add j = ⟨b, off + j, none⟩ by simp [Addr.add], h3 j hj]
  exact hv

theorem splice_whole {α : Type} (L cs : List α) (h : L.length = cs.length) : splice L 0 cs = cs := by
  simp [splice, ← h]

/-- The copy, as the walks are told of it. -/
theorem snap_strs {w2 : World} {g len : Nat} {ss : List ByteArray} {xs : List Value} (hx : xs.length = len) (h : w2.heap[g]? = some (.cells (splice xs 0 (strRow ss len)).toArray 9 (0, 0))) :
    IsStrs w2 (some ⟨g, 0, none⟩) len ss := by
  rw [splice_whole xs _ (by rw [hx, strRow_length])] at h
  intro _
  refine ⟨g, 0, rfl, (Array.getElem?_eq_some_iff.1 h).1, fun i hi => ?_⟩
  rw [Nat.zero_add, cell_of_row w2 g i _ 9 (0, 0) h]
  simpa using strRow_at ss len i hi

/-- JoinWords' contract, over the Go string G. -/
theorem join_string (ao : Option Addr) (len cap : Nat) (ss : List ByteArray) (w : World) (G : ByteArray) (hG : Hid (jb ss len = G)) (hlen : len ≤ 1024)
    (HS : Hid (∀ i, i < len → (ss.getD i ByteArray.empty).size ≤ 1048576)) (hs : IsStrs w ao len ss) :
    Calls Ybbv.prog 7 #[.slice ao len cap] w fun e w' => e = .returned (.string G) ∧ Below w.heap.size w w' := by
  rw [← hG.out]
  exact join_any ao len cap ss w hlen HS hs

/-- The model's contract, over the Go string G. -/
theorem model_bytes (ao : Option Addr) (len cap : Nat) (ss : List ByteArray) (w : World) (G : ByteArray) (hG : Hid (jb ss len = G)) (hlen : len ≤ 1024)
    (HS : Hid (∀ i, i < len → (ss.getD i ByteArray.empty).size ≤ 1048576)) (hs : IsStrs w ao len ss) :
    Calls Ybbv.prog 8 #[.slice ao len cap] w fun e w' => ∃ vo vc, e = .returned (.slice vo G.size vc) ∧ (0 < G.size → ∃ g, vo = some ⟨g, 0, none⟩ ∧ Lib.Bytes w' g 0 G) ∧ Below w.heap.size w w' := by
  refine (model_any ao len cap ss w hlen HS hs).mono ?_
  rintro e w' ⟨v, rfl, hown, hb⟩
  obtain ⟨vo, vc, hv, hor⟩ := own_bytes hown
  have hz : (jn ss len).length = G.size := by rw [← hG.out, jb_size]
  rw [hz] at hv hor
  refine ⟨vo, vc, by rw [hv], fun hp => ?_, hb⟩
  rcases hor with h0 | ⟨g, h1, _, _, h4⟩
  · omega
  · exact ⟨g, h1, by rw [← hG.out]; exact h4⟩

set_option maxHeartbeats 1600000 in
set_option maxRecDepth 100000 in
theorem law_walk (ao : Option Addr) (len cap : Nat) (ss : List ByteArray) (w : World) (hs : IsStrs w ao len ss) (hm : len ≤ maxLen) :
    Calls Ybbv.prog 4 #[.slice ao len cap] w fun e w' => e = .returned (.bool true) ∧ Below w.heap.size w w' := by
  unfold maxLen at hm
  obtain ⟨i9, hi, hz0, hz1, hz2⟩ := info_parts Ybbv.info9
  by_cases hlen : len ≤ 1024
  · have hd : decide ((1024 : Int) < (len : Int)) = false := decide_eq_false (by omega)
    go_enter Ybbv.func4, Ybbv.ntmps4
    go_wp2
    go_loop [3] (fun i => ∃ k : Nat, k ≤ len ∧ i = .int .i64 k ∧ Hid (∀ i, i < k → (ss.getD i ByteArray.empty).size ≤ 1048576)) (fun i => len - (intOf i).toNat)
    case atStart => exact ⟨0, Nat.zero_le _, rfl, fun i hi => absurd hi (Nat.not_lt_zero _)⟩
    case round =>
      obtain ⟨k, hk, rfl, HS⟩ := hrel
      by_cases hlt : k < len
      · obtain ⟨b, off, hao, hbB, hc⟩ := hs (by omega)
        subst hao
        obtain ⟨s, hsk⟩ : ∃ s, s = ss.getD k ByteArray.empty := ⟨_, rfl⟩
        have hcx : w.cell? ⟨b, off + k, none⟩ = some (.string s) := by rw [hsk]; exact hc k hlt
        have HK : Hid (s = ss.getD k ByteArray.empty) := hsk
        clear hsk hc
        by_cases hsl : s.size ≤ 1048576
        · go_wp2
          go_round
          case rel =>
            refine ⟨k + 1, by omega, by go_num, fun i hi => ?_⟩
            by_cases hik : i = k
            · rw [hik, ← HK.out]; exact hsl
            · exact HS.out i (by omega)
          case measure => simp [intOf]; omega
        · go_wp2
          go_ret
          exact ⟨rfl, Below.refl _ _⟩
      · have hke : k = len := by omega
        have HS' : Hid (∀ i, i < len → (ss.getD i ByteArray.empty).size ≤ 1048576) := by rw [← hke]; exact HS
        clear hke HS
        go_wp2_with (at_make; refine wpList_make_full _ rfl _ _ 23 rfl w.heap.size 9 i9 (.string ⟨#[]⟩) 1 Ybbv.underlying23 hi hz0 hz1 _ _ _ _ len rfl rfl rfl rfl ?b2 ?b3 ?b4 ?_)
        case b2 => omega
        case b3 => unfold maxLen; omega
        intro w1 hown1 hgrow1
        have hrow := made_row hown1
        obtain ⟨xs, hx, HR⟩ : ∃ xs : List Value, xs.length = len ∧ Hid (w1.heap[w.heap.size]? = some (.cells xs.toArray 9 (0, 0))) := ⟨_, by simp [size_madeCells], hrow⟩
        have hb1 : Below w.heap.size w w1 := (Below.refl _ _).grown hgrow1 (Nat.le_refl _) (fun k hk => by simp at hk)
        have hs1 : IsStrs w1 ao len ss := hs.later hb1
        clear hrow hown1 hgrow1
        have HX : Hid (xs.length = len) := hx
        clear hx
        go_wp2_with (refine wpList_copy_splice rfl (.tmp 27) (.tmp 28) 23 23 rfl 9 Ybbv.underlying23 (by kernel_rfl) (some ⟨w.heap.size, 0, none⟩) ao len len len cap rfl rfl w.heap.size 0 xs 9 HR.out (strRow ss len) ?n1 ?n2 ?n3 ?n4 w.heap.size w hb1 (Nat.le_refl _) ?_)
        case n1 => rw [strRow_length]; exact (Nat.min_self len).symm
        case n2 => intro hp; rw [strRow_length] at hp; exact copy_src hs1 hp
        case n3 => rw [strRow_length, HX.out]; omega
        case n4 => exact strRow_one ss len
        intro w2 HG2 hB2
        have hs2 : IsStrs w2 ao len ss := hs.later hB2
        have hsn2 : IsStrs w2 (some ⟨w.heap.size, 0, none⟩) len ss := snap_strs HX.out HG2.out
        obtain ⟨G, HG⟩ : ∃ G, Hid (jb ss len = G) := ⟨_, rfl⟩
        have hjl := jn_le ss len HS'.out len (Nat.le_refl _)
        rw [← jb_size, HG.out] at hjl
        clear HR hb1 hs1 HG2 HX hs
        go_wp2_with fail
        refine (join_string ao len cap ss w2 G HG hlen HS' hs2).mono ?_
        rintro e w3 ⟨rfl, hb3⟩
        have hs3 := hs2.later hb3
        have hsn3 := hsn2.later hb3
        clear hs2 hsn2
        go_wp2_with fail
        refine (model_bytes (some ⟨w.heap.size, 0, none⟩) len len ss w3 G HG hlen HS' hsn3).mono ?_
        rintro e w4 ⟨vo, vc, rfl, hor, hb4⟩
        have hs4 := hs3.later hb4
        have hsn4 := hsn3.later hb4
        have hb := (hB2.trans (hb3.mono hB2.size)).trans (hb4.mono (Nat.le_trans hB2.size hb3.size))
        clear hs3 hsn3 hB2 hb3 hb4
        have hGs : G.size ≤ 1073742848 := by omega
        clear hjl
        go_wp2_with fail
        go_loopw [7] (fun i wr => ∃ j q : Nat, j ≤ G.size ∧ i = .int .i64 j ∧ wr = w4.drewN q) (fun i _ => G.size - (intOf i).toNat)
        case atStart => exact ⟨0, 0, Nat.zero_le _, rfl, rfl⟩
        case round =>
          obtain ⟨j, q, hj, rfl, rfl⟩ := hrel
          by_cases hjs : j < G.size
          · obtain ⟨g, hvo, hBy⟩ := hor (by omega)
            subst hvo
            have hcj : w4.cell? ⟨g, j, none⟩ = some (.int .u8 (G[j].toNat : Int)) := by simpa using hBy j hjs
            have hji : (j : Int) < (G.size : Int) := by omega
            clear hBy hor
            go_wp2
            go_quiet (fail)
            go_wp2
            go_roundw
            case rel => exact ⟨j + 1, _, by omega, by go_num, rfl⟩
            case measure => simp [intOf]; omega
          · go_wp2
            go_loopw [8] (fun i wr => ∃ n q : Nat, n ≤ len ∧ i = .int .i64 n ∧ wr = w4.drewN q) (fun i _ => len - (intOf i).toNat)
            case atStart => exact ⟨0, _, Nat.zero_le _, rfl, rfl⟩
            case round =>
              obtain ⟨n, q', hn, rfl, rfl⟩ := hrel
              by_cases hns : n < len
              · obtain ⟨b, off, hao, _, hcw⟩ := hs4 (by omega)
                subst hao
                obtain ⟨b', off', hsn, _, hcs⟩ := hsn4 (by omega)
                simp only [Option.some.injEq, Addr.mk.injEq, and_true] at hsn
                obtain ⟨rfl, rfl⟩ := hsn
                obtain ⟨s, hsk⟩ : ∃ s, s = ss.getD n ByteArray.empty := ⟨_, rfl⟩
                have hc1 : w4.cell? ⟨b, off + n, none⟩ = some (.string s) := by rw [hsk]; exact hcw n hns
                have hc2 : w4.cell? ⟨w.heap.size, n, none⟩ = some (.string s) := by rw [hsk]; simpa using hcs n hns
                have hni : (n : Int) < (len : Int) := by omega
                clear hcw hcs hsk hor hs4 hsn4
                go_wp2
                go_quiet (fail)
                go_wp2
                go_roundw
                case rel => exact ⟨n + 1, _, by omega, by go_num, rfl⟩
                case measure => simp [intOf]; omega
              · go_wp2
                go_ret
                exact ⟨rfl, below_drewN hb _⟩
  · go_enter Ybbv.func4, Ybbv.ntmps4
    go_wp2
    go_ret
    exact ⟨rfl, Below.refl _ _⟩

end Go.Proofs.Ymwhbb
