/-
  'Rows.LawS930019QABWholeSaid': the law's own model, by its contract: it answers a new slice of bytes, the words joined by single spaces, and writes nothing that was there.
-/
import Derived.Test.YmwhbbJoinWalk
namespace Go.Proofs.Ymwhbb
open Go.RowKit

theorem take_next (s : ByteArray) (j : Nat) (h : j < s.size) : s.data.toList.take (j + 1) = s.data.toList.take j ++ [s[j]] := by
  rw [List.take_succ_eq_append_getElem (by simpa using h)]; rfl
theorem take_all (s : ByteArray) : s.data.toList.take s.size = s.data.toList := List.take_of_length_le (by simp)

set_option maxHeartbeats 1600000 in
set_option maxRecDepth 100000 in
theorem model_any (ao : Option Addr) (len cap : Nat) (ss : List ByteArray) (w : World) (hlen : len ≤ 1024)
    (HS : Hid (∀ i, i < len → (ss.getD i ByteArray.empty).size ≤ 1048576)) (hs : IsStrs w ao len ss) :
    Calls Ybbv.prog 8 #[.slice ao len cap] w fun e w' => ∃ v, e = .returned v ∧ w'.ownsRow w.heap.size 5 1 v (jn ss len).length (cellsB (jn ss len)) ∧ Below w.heap.size w w' := by
  obtain ⟨i0, hi, hz0, hz1, hz2⟩ := info_parts Ybbv.info5
  go_enter Ybbv.func8, Ybbv.ntmps8
  go_wp2
  go_loopw [3, 4] (fun v i wr => ∃ k : Nat, k ≤ len ∧ i = .int .i64 k ∧ wr.ownsRow w.heap.size 5 1 v (jn ss k).length (cellsB (jn ss k)) ∧ Below w.heap.size w wr) (fun _ i _ => len - (intOf i).toNat)
  case atStart => exact ⟨0, Nat.zero_le _, rfl, World.ownsRow_nil _ _ _ _, Below.refl _ _⟩
  case round =>
    obtain ⟨k, hk, rfl, hown, hnx⟩ := hrel
    have hjl := jn_le ss len HS.out k hk
    by_cases hlt : k < len
    · obtain ⟨b, off, hao, hbB, hc⟩ := hs (by omega)
      subst hao
      obtain ⟨s, hsk⟩ : ∃ s, s = ss.getD k ByteArray.empty := ⟨_, rfl⟩
      have hcx : wr.cell? ⟨b, off + k, none⟩ = some (.string s) := by rw [hsk]; exact (hnx.cell (p := ⟨b, off + k, none⟩) hbB).trans (hc k hlt)
      have hsl : s.size ≤ 1048576 := by rw [hsk]; exact HS.out k hlt
      have HK : Hid (s = ss.getD k ByteArray.empty) := hsk
      have hwsz := hnx.size
      clear hsk hc
      by_cases hkp : 0 < k
      · have hkb : ((k : Int) != 0) = true := by rw [bne_iff_ne]; omega
        go_wp2_with (first
          | (at_builtin; refine wpList_append_own _ rfl _ _ 25 rfl w.heap.size 5 i0 (.int .u8 0) 1 1 Ybbv.underlying25 hi hz0 hz1 hz2 rfl (by decide) _ _ _ rfl (hown.alloc _) ⟨wr.heap.size, 0, none⟩ 1 1 [.int .u8 32] rfl rfl ?c1 ?c2 ?c3 ?c4 ?c5 ?_))
        case c1 =>
          intro j u hj
          match j, hj with
          | 0, hj => simp at hj; subst hj; simp [Addr.add]
        case c2 => intro u hu; simp at hu; subst hu; rfl
        case c3 => unfold maxLen; omega
        case c4 => omega
        case c5 => simp; omega
        intro v1 w1 hown1 hgrow1 _
        obtain ⟨hown2, hnx2⟩ := join_sep hown hnx hown1 hgrow1
        have hcx2 : w1.cell? ⟨b, off + k, none⟩ = some (.string s) := (hnx2.cell (p := ⟨b, off + k, none⟩) hbB).trans ((hnx.cell (p := ⟨b, off + k, none⟩) hbB).symm.trans hcx)
        obtain ⟨l, HL, hll, hown3⟩ : ∃ l : List UInt8, Hid (jn ss (k + 1) = l ++ s.data.toList) ∧ l.length ≤ 1073742849 ∧ w1.ownsRow w.heap.size 5 1 v1 l.length (cellsB l) :=
          ⟨jn ss k ++ [32], by rw [jn_later ss k hkp, ← HK.out]; rfl, by simp; omega, hown2⟩
        clear hown1 hgrow1 hown hcx hwsz hown2 hjl
        go_wp2
        go_loopw [3, 6] (fun v i wr => ∃ j : Nat, j ≤ s.size ∧ i = .int .i64 j ∧ wr.ownsRow w.heap.size 5 1 v (l ++ s.data.toList.take j).length (cellsB (l ++ s.data.toList.take j)) ∧ Below w.heap.size w wr) (fun _ i _ => s.size - (intOf i).toNat)
        case atStart => exact ⟨0, Nat.zero_le _, rfl, by simpa using hown3, hnx2⟩
        case round =>
          obtain ⟨j, hj, rfl, hownj, hnxj⟩ := hrel
          have hwj := hnxj.size
          have hlj : (l ++ s.data.toList.take j).length ≤ 1073742849 + 1048576 := by
            have h1 : (s.data.toList.take j).length ≤ j := List.length_take_le _ _
            rw [List.length_append]; omega
          by_cases hjs : j < s.size
          · have HT : Hid (l ++ s.data.toList.take (j + 1) = l ++ s.data.toList.take j ++ [s[j]]) := by rw [take_next s j hjs, ← List.append_assoc]; rfl
            obtain ⟨m, hm⟩ : ∃ m, m = l ++ s.data.toList.take j := ⟨_, rfl⟩
            rw [← hm] at hownj hlj HT
            clear hown3 hm hcx2
            go_wp2_with (first
              | (at_builtin; refine wpList_append_own _ rfl _ _ 25 rfl w.heap.size 5 i0 (.int .u8 0) 1 1 Ybbv.underlying25 hi hz0 hz1 hz2 rfl (by decide) _ _ _ rfl (hownj.alloc _) ⟨_, 0, none⟩ 1 1 [.int .u8 s[j].toNat] rfl rfl ?e1 ?e2 ?e3 ?e4 ?e5 ?_))
            case e1 =>
              intro q u hq
              match q, hq with
              | 0, hq => simp at hq; subst hq; simp [Addr.add]
            case e2 => intro u hu; simp at hu; subst hu; rfl
            case e3 => unfold maxLen; omega
            case e4 => omega
            case e5 => simp; omega
            intro v2 w2 hown4 hgrow4 _
            have R := join_byte (c := s[j]) hownj hnxj hown4 hgrow4
            rw [← HT.out] at R
            clear hown4 hgrow4 hownj
            go_wp2
            go_roundw
            case rel => exact ⟨j + 1, by omega, by go_num, R.1, R.2⟩
            case measure => simp [intOf]; omega
          · have R : wr.ownsRow w.heap.size 5 1 u3 (jn ss (k + 1)).length (cellsB (jn ss (k + 1))) := by
              have he : j = s.size := by omega
              rw [he, take_all] at hownj
              rw [HL.out]
              exact hownj
            clear hownj hown3 hlj hcx2
            go_wp2
            go_roundw
            case rel => exact ⟨k + 1, by omega, by go_num, R, hnxj⟩
            case measure => simp [intOf]; omega
      · have hkb : ((k : Int) != 0) = false := by rw [bne_eq_false_iff_eq]; omega
        obtain ⟨l, HL, hll, hown3⟩ : ∃ l : List UInt8, Hid (jn ss (k + 1) = l ++ s.data.toList) ∧ l.length ≤ 1073742849 ∧ wr.ownsRow w.heap.size 5 1 u3 l.length (cellsB l) :=
          ⟨jn ss k, by have h0 : k = 0 := by omega
                       subst h0; rw [jn_first, ← HK.out]; rfl, by omega, hown⟩
        clear hown hwsz hjl
        go_wp2
        go_loopw [3, 6] (fun v i wr => ∃ j : Nat, j ≤ s.size ∧ i = .int .i64 j ∧ wr.ownsRow w.heap.size 5 1 v (l ++ s.data.toList.take j).length (cellsB (l ++ s.data.toList.take j)) ∧ Below w.heap.size w wr) (fun _ i _ => s.size - (intOf i).toNat)
        case atStart => exact ⟨0, Nat.zero_le _, rfl, by simpa using hown3, hnx⟩
        case round =>
          obtain ⟨j, hj, rfl, hownj, hnxj⟩ := hrel
          have hwj := hnxj.size
          have hlj : (l ++ s.data.toList.take j).length ≤ 1073742849 + 1048576 := by
            have h1 : (s.data.toList.take j).length ≤ j := List.length_take_le _ _
            rw [List.length_append]; omega
          by_cases hjs : j < s.size
          · have HT : Hid (l ++ s.data.toList.take (j + 1) = l ++ s.data.toList.take j ++ [s[j]]) := by rw [take_next s j hjs, ← List.append_assoc]; rfl
            obtain ⟨m, hm⟩ : ∃ m, m = l ++ s.data.toList.take j := ⟨_, rfl⟩
            rw [← hm] at hownj hlj HT
            clear hown3 hm hcx
            go_wp2_with (first
              | (at_builtin; refine wpList_append_own _ rfl _ _ 25 rfl w.heap.size 5 i0 (.int .u8 0) 1 1 Ybbv.underlying25 hi hz0 hz1 hz2 rfl (by decide) _ _ _ rfl (hownj.alloc _) ⟨_, 0, none⟩ 1 1 [.int .u8 s[j].toNat] rfl rfl ?e1 ?e2 ?e3 ?e4 ?e5 ?_))
            case e1 =>
              intro q u hq
              match q, hq with
              | 0, hq => simp at hq; subst hq; simp [Addr.add]
            case e2 => intro u hu; simp at hu; subst hu; rfl
            case e3 => unfold maxLen; omega
            case e4 => omega
            case e5 => simp; omega
            intro v2 w2 hown4 hgrow4 _
            have R := join_byte (c := s[j]) hownj hnxj hown4 hgrow4
            rw [← HT.out] at R
            clear hown4 hgrow4 hownj
            go_wp2
            go_roundw
            case rel => exact ⟨j + 1, by omega, by go_num, R.1, R.2⟩
            case measure => simp [intOf]; omega
          · have R : wr.ownsRow w.heap.size 5 1 u3 (jn ss (k + 1)).length (cellsB (jn ss (k + 1))) := by
              have he : j = s.size := by omega
              rw [he, take_all] at hownj
              rw [HL.out]
              exact hownj
            clear hownj hown3 hlj hcx
            go_wp2
            go_roundw
            case rel => exact ⟨k + 1, by omega, by go_num, R, hnxj⟩
            case measure => simp [intOf]; omega
    · have hke : k = len := by omega
      rw [hke] at hown
      clear hjl hke
      go_wp2
      go_ret
      exact ⟨_, rfl, hown, hnx⟩

end Go.Proofs.Ymwhbb
