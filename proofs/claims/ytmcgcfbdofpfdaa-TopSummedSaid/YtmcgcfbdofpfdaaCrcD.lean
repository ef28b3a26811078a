/- The walk of the sums' joining. -/
import Derived.Test.YtmcgcfbdofpfdaaCrcC
namespace Go.Proofs.Ytmcgcfbdofpfdaa
open Go.RowKit
/-- So many bytes of noughts. -/
def itW : Nat → UInt32 → UInt32
  | 0, r => r
  | n + 1, r => step8 (itW n r)
theorem itW_add (m n : Nat) (r : UInt32) : itW (m + n) r = itW m (itW n r) := by
  induction m with
  | zero => simp [itW]
  | succ m ih => rw [Nat.succ_add]; simp only [itW, ih]
theorem itW_xor (m : Nat) (a b : UInt32) : itW m (a ^^^ b) = itW m a ^^^ itW m b := by
  induction m with
  | zero => rfl
  | succ m ih => simp only [itW, ih, step8_xor]
theorem itW_one : itW 1 = step8 := by funext r; rfl
theorem itW_twice (m : Nat) : (fun r => itW m (itW m r)) = itW (m + m) := by funext r; rw [itW_add]
theorem itW_odd (m : Nat) (k : Int) (r : UInt32) (hk : 0 < k) (h : k % 2 = 1) : itW (m * k.toNat) r = itW ((m + m) * (k / 2).toNat) (itW m r) := by
  rw [← itW_add]
  congr 1
  have : k.toNat = 2 * (k / 2).toNat + 1 := by omega
  rw [this, Nat.mul_add, ← Nat.mul_assoc, Nat.mul_comm m 2, Nat.two_mul]; omega
theorem itW_even (m : Nat) (k : Int) (r : UInt32) (hk : 0 < k) (h : ¬ k % 2 = 1) : itW (m * k.toNat) r = itW ((m + m) * (k / 2).toNat) r := by
  congr 1
  have : k.toNat = 2 * (k / 2).toNat := by omega
  rw [this, ← Nat.mul_assoc, Nat.mul_comm m 2, Nat.two_mul]
/-- The sum of two pieces, the second n bytes long. -/
def joinW (a b : UInt32) (n : Int) : UInt32 := itW n.toNat a ^^^ b
attribute [local go_sem] w_xor
set_option maxHeartbeats 1000000 in
theorem join_c (a b : UInt32) (n : Int) (w : World) (hn : -9223372036854775808 ≤ n) (hn' : n ≤ 9223372036854775807) :
    Calls Try.prog 10 #[.int .u32 (w32 a), .int .u32 (w32 b), .int .i64 n] w fun e w' => e = .returned (.int .u32 (w32 (joinW a b n))) ∧ Ext w w' := by
  have hts := fun f => wayOf_size f
  have HT := Lib.hid hts; clear hts
  go_enter Try.func10, Try.ntmps10
  go_wp2_with (first | (go_at_call 47; with_reducible refine (zeroByte_c _).mono ?_; rintro e w1 ⟨rfl, hE⟩) | (refine wpList_store_blk rfl rfl 80 (.tmp 7) (.tmp 8) rfl _ _ rfl rfl _ _ (heap_alloc_new _ _) (by rw [HT.out]; kernel_rfl) (by rw [HT.out]; rfl) (by simp [wayOf, Value.oneCell']) ?_; intro w2 hb2 hg2))
  have hE2 : Ext w w2 := (hE.al _).gr hg2 (by simp; exact hE.size)
  have hge := hE.size
  clear hg2 hE
  go_loopw [0, 2, 7] (fun x i p wr => ∃ (m : Nat) (acc : UInt32) (k : Int) (g : Nat), x = .int .u32 (w32 acc) ∧ i = .int .i64 k ∧ p = .pointer (some ⟨g, 0, none⟩) ∧ -9223372036854775808 ≤ k ∧ k ≤ 9223372036854775807 ∧ Hid (itW (m * k.toNat) acc = itW n.toNat a) ∧ w.heap.size ≤ g ∧ Hid (wr.heap[g]? = some (.cells (wayOf (itW m)).toArray 80 (0,0))) ∧ Ext w wr) (fun _ i _ _ => (intOf i).toNat)
  case atStart => exact ⟨1, a, n, w1.heap.size, rfl, rfl, rfl, hn, hn', by rw [Nat.one_mul]; exact Lib.hid rfl, hge, by rw [itW_one]; exact Lib.hid hb2, hE2⟩
  case round =>
    clear hb2 hE2 hge hn hn'
    obtain ⟨m, acc, k, g, rfl, rfl, rfl, hk1, hk2, HM, hg, HB, hB⟩ := hrel
    have HE := Lib.hid hB; clear hB
    by_cases hpos : 0 < k
    · by_cases hodd : k % 2 = 1
      · have HO := Lib.hid hodd
        have e1 : (k % 2 == 1) = true := by simpa using hodd
        clear hodd
        go_wp2_with (first | (go_at_call 48; with_reducible refine (of_c (itW m) (itW_xor m) _ _ _ HB.out).mono ?_; rintro e w1 ⟨rfl, n, rfl⟩) | (refine wpList_load_row rfl 80 (.tmp 7) rfl _ rfl _ _ _ _ hb4 Try.underlying80 rfl (by rw [HT.out]; kernel_rfl) ?_) | (refine wpList_load_row rfl 80 (.tmp 7) rfl _ rfl _ _ _ _ HB.out Try.underlying80 rfl (by rw [HT.out]; kernel_rfl) ?_) | (go_at_call 49; with_reducible refine (twice_c (itW m) (itW_xor m) _).mono ?_; rintro e w3 ⟨rfl, hE3⟩; have HB3 := Lib.hid (hE3.heap HB.out)) | (refine wpList_store_blk rfl rfl 80 (.tmp 7) (.tmp 19) rfl _ _ rfl rfl _ _ HB3.out (by rw [HT.out]; kernel_rfl) (by rw [HT.out, HT.out]) (by simp [wayOf, Value.oneCell']) ?_; intro w4 hb4 hg4) | (refine wpList_store_blk rfl rfl 80 (.tmp 7) (.tmp 20) rfl _ _ rfl rfl _ _ (heap_alloc_new _ _) (by rw [HT.out]; kernel_rfl) (by rw [HT.out]; rfl) (by simp [wayOf, Value.oneCell']) ?_; intro w5 hb5 hg5))
        have hE4 : Ext w w4 := ((HE.out.drN n).tr hE3).gr hg4 (by simp; exact hg)
        refine ⟨⟨m + m, itW m acc, k / 2, w4.heap.size, rfl, rfl, rfl, by omega, by omega, ?_, hE4.size, ?_, ?_⟩, by simp [intOf]; omega⟩
        · rw [← itW_odd m k acc hpos HO.out]; exact HM
        · rw [itW_twice] at hb5; exact Lib.hid hb5
        · exact (hE4.al _).gr hg5 (by simp; exact hE4.size)
      · have HO := Lib.hid hodd
        have e1 : (k % 2 == 1) = false := by simpa using hodd
        clear hodd
        go_wp2_with (first | (refine wpList_load_row rfl 80 (.tmp 7) rfl _ rfl _ _ _ _ hb4 Try.underlying80 rfl (by rw [HT.out]; kernel_rfl) ?_) | (refine wpList_load_row rfl 80 (.tmp 7) rfl _ rfl _ _ _ _ HB.out Try.underlying80 rfl (by rw [HT.out]; kernel_rfl) ?_) | (go_at_call 49; with_reducible refine (twice_c (itW m) (itW_xor m) _).mono ?_; rintro e w3 ⟨rfl, hE3⟩; have HB3 := Lib.hid (hE3.heap HB.out)) | (refine wpList_store_blk rfl rfl 80 (.tmp 7) (.tmp 19) rfl _ _ rfl rfl _ _ HB3.out (by rw [HT.out]; kernel_rfl) (by rw [HT.out, HT.out]) (by simp [wayOf, Value.oneCell']) ?_; intro w4 hb4 hg4) | (refine wpList_store_blk rfl rfl 80 (.tmp 7) (.tmp 20) rfl _ _ rfl rfl _ _ (heap_alloc_new _ _) (by rw [HT.out]; kernel_rfl) (by rw [HT.out]; rfl) (by simp [wayOf, Value.oneCell']) ?_; intro w5 hb5 hg5))
        have hE4 : Ext w w4 := (HE.out.tr hE3).gr hg4 (by simp; exact hg)
        refine ⟨⟨m + m, acc, k / 2, w4.heap.size, rfl, rfl, rfl, by omega, by omega, ?_, hE4.size, ?_, ?_⟩, by simp [intOf]; omega⟩
        · rw [← itW_even m k acc hpos HO.out]; exact HM
        · rw [itW_twice] at hb5; exact Lib.hid hb5
        · exact (hE4.al _).gr hg5 (by simp; exact hE4.size)
    · go_wp2
      go_ret
      exact ⟨by have := HM.out; rw [show k.toNat = 0 by omega, Nat.mul_zero] at this; rw [joinW, ← this]; rfl, HE.out⟩
end Go.Proofs.Ytmcgcfbdofpfdaa
