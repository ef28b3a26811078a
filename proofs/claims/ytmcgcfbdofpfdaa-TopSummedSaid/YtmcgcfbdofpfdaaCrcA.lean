/- The walks of the sums' inner functions: a step of the register, the table, a row of bytes. -/
import Derived.Test.YtmcgcfbdofpfdaaBase2
namespace Go.Proofs.Ytmcgcfbdofpfdaa
open Go.RowKit

def stepW (r : UInt32) : UInt32 := if r &&& 1 = 1 then (r >>> 1) ^^^ 0x82F63B78 else r >>> 1
def step4 (r : UInt32) : UInt32 := stepW (stepW (stepW (stepW r)))

theorem w_shr1 (r : UInt32) : w32 r / 2 = w32 (r >>> 1) := by
  unfold w32; rw [UInt32.toNat_shiftRight]; simp [Nat.shiftRight_eq_div_pow]
theorem w_shr4 (r : UInt32) : w32 r / 16 = w32 (r >>> 4) := by
  unfold w32; rw [UInt32.toNat_shiftRight]; simp [Nat.shiftRight_eq_div_pow]
theorem s_shr1 (r : UInt32) (k : IntKind) : Op.shift .shr .u32 (w32 r) k 1 = pure (.int .u32 (w32 (r >>> 1))) := by
  rw [shift_shr_any _ _ _ _ (by omega), ← w_shr1]; rfl
theorem s_shr4 (r : UInt32) (k : IntKind) : Op.shift .shr .u32 (w32 r) k 4 = pure (.int .u32 (w32 (r >>> 4))) := by
  rw [shift_shr_any _ _ _ _ (by omega), ← w_shr4]; rfl
theorem w_xorc (r : UInt32) : bits .xor .u32 (w32 r) 2197175160 = w32 (r ^^^ 0x82F63B78) := w_xor r 0x82F63B78
theorem w_and1 (r : UInt32) : bits .and .u32 (w32 r) 1 = w32 (r &&& 1) := w_and r 1
theorem w_and15 (r : UInt32) : bits .and .u32 (w32 r) 15 = w32 (r &&& 15) := w_and r 15
theorem w_xor8 (r : UInt32) (x : UInt8) : bits .xor .u32 (w32 r) (b8 x) = w32 (r ^^^ x.toUInt32) := by rw [w_of8, w_xor]
theorem w_1 (r : UInt32) : w32 r = 1 ↔ r = 1 := u32_inj (b := 1)
theorem w_test1 (r : UInt32) : (w32 (r &&& 1) == 1) = decide (r &&& 1 = 1) := by
  rw [Bool.eq_iff_iff]; simp [w_1]

attribute [local go_sem ↓] s_shr1 s_shr4
attribute [local go_sem] w_xor w_xorc w_and1 w_and15 w_xor8 w_test1
theorem step_c (r : UInt32) (w : World) : Calls Try.prog 83 #[.int .u32 (w32 r)] w fun e w' => e = .returned (.int .u32 (w32 (stepW r))) ∧ w = w' := by
  by_cases h : r &&& 1 = 1
  · have H := Lib.hid h
    have e1 : decide (r &&& 1 = 1) = true := by simpa using h
    clear h
    go_enter Try.func83, Try.ntmps83
    go_wp2
    go_ret
    exact ⟨by simp [stepW, H.out], rfl⟩
  · have H := Lib.hid h
    have e1 : decide (r &&& 1 = 1) = false := by simpa using h
    clear h
    go_enter Try.func83, Try.ntmps83
    go_wp2
    go_ret
    exact ⟨by have := H.out; simp [stepW, this], rfl⟩

def tabTo (k : Nat) : List Value := (List.range 16).map fun j => .int .u32 (w32 (if j < k then step4 (UInt32.ofNat j) else 0))
theorem tabTo_succ (k : Nat) : (tabTo k).toArray.setIfInBounds k (.int .u32 (w32 (stepW (stepW (stepW (stepW (UInt32.ofNat k))))))) = (tabTo (k+1)).toArray := by
  apply Array.ext
  · simp [tabTo]
  · intro i h1 h2
    simp [tabTo]
    by_cases h : k = i
    · simp [h, step4]
    · simp [h]
      by_cases h' : i < k
      · simp [h', show i < k+1 by omega]
      · simp [h', show ¬ i < k+1 by omega]
theorem tabTo_get (k j : Nat) (hj : j < 16) : (tabTo k).toArray[j]? = some (.int .u32 (w32 (if j < k then step4 (UInt32.ofNat j) else 0))) := by
  simp [tabTo, hj]
theorem halves_c (w : World) : Calls Try.prog 66 #[] w fun e w' => e = .returned (.agg (tabTo 16).toArray) ∧ Ext w w' := by
  go_enter Try.func66, Try.ntmps66
  go_wp2
  go_loopw [3] (fun i wr => ∃ k : Nat, k ≤ 16 ∧ i = .int .i64 k ∧ wr.heap[w.heap.size+1]? = some (.cells (tabTo k).toArray 115 (0,0)) ∧ (∃ z, wr.heap[w.heap.size]? = some (.cells z 115 (0,0)) ∧ z.size = 16) ∧ Ext w wr) (fun i _ => 16 - (intOf i).toNat)
  case atStart => exact ⟨0, by omega, rfl, by rw [heap_alloc2_new]; rfl, ⟨_, heap_alloc2_old _ _ _, rfl⟩, ((Ext.refl _).al _).al _⟩
  case round =>
    obtain ⟨k, hk, rfl, hb, ⟨z, hz, hzs⟩, hB⟩ := hrel
    by_cases hlt : k < 16
    · have hc := (cell_of_row wr (w.heap.size+1) k _ _ _ hb).trans (tabTo_get k k hlt)
      have hf := frozen_of_row wr (w.heap.size+1) k _ _ hb
      have h0 := step_c (UInt32.ofNat k)
      rw [u32_nat k (by omega)] at h0
      have H0 := Lib.hid h0; clear h0
      go_wp2_with (go_at_call 83; (first | (with_reducible refine (step_c _ _).mono ?_) | (with_reducible refine (H0.out _).mono ?_)); rintro e w' ⟨rfl, rfl⟩)
      go_roundw
      case rel => exact ⟨k+1, by omega, by go_num, by rw [heap_setCell_same _ _ _ _ _ _ hb]; exact congrArg (fun c => some (Obj.cells c 115 (0,0))) (tabTo_succ k), ⟨z, by rw [heap_setCell_other _ _ _ _ (by simp)]; exact hz, hzs⟩, hB.set (by simp) _⟩
      case measure => simp [intOf]; omega
    · obtain rfl : k = 16 := by omega
      have hts : (tabTo 16).toArray.size = 16 := by simp [tabTo]
      go_wp2_with (first | (refine wpList_load_row rfl 115 (.tmp 1) rfl _ rfl _ _ _ _ hb Try.underlying115 rfl (by rw [hts]; kernel_rfl) ?_) | (refine wpList_store_row rfl 115 (.tmp 0) (.tmp 15) rfl _ _ rfl rfl _ _ hz (by rw [hts]; kernel_rfl) (by omega) (by simp [tabTo, Value.oneCell']) ?_))
      refine bodyPost_ret (results_cell_row rfl _ _ _ _ _ _ _ rfl (setRow_heap _ _ _ _ _ _ hz) Try.underlying115 rfl (by rw [hts]; kernel_rfl)) rfl ⟨rfl, hB.row (by omega) _⟩
end Go.Proofs.Ytmcgcfbdofpfdaa
