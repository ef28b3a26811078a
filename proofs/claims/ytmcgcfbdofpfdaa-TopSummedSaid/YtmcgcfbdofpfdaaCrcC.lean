/- The walks of the sums' joining: a linear map of the register as what it makes of each bit. -/
import Derived.Test.YtmcgcfbdofpfdaaCrcB
namespace Go.Proofs.Ytmcgcfbdofpfdaa
open Go.RowKit

def bit (k : Nat) : UInt32 := UInt32.ofNat (2 ^ k)
theorem bit_toNat (k : Nat) (h : k < 32) : (bit k).toNat = 2 ^ k := by
  unfold bit
  rw [UInt32.toNat_ofNat']
  exact Nat.mod_eq_of_lt (Nat.pow_lt_pow_right (by omega) h)
theorem s_shl1 (k : Nat) (yk : IntKind) (h : k < 32) : Op.shift .shl .u32 1 yk (k : Int) = pure (.int .u32 (w32 (bit k))) := by
  have hp : 2 ^ k < 2 ^ 32 := Nat.pow_lt_pow_right (by omega) h
  rw [shift_shl_any _ _ _ _ (by omega), IntKind.wrap_u32, Int.toNat_natCast, show min k (IntKind.u32.bits) = k from Nat.min_eq_left (Nat.le_of_lt h)]
  have e : (1 : Int) * 2 ^ k % 4294967296 = ((2 ^ k : Nat) : Int) := by
    rw [Int.one_mul]
    have : ((2 : Int) ^ k) = ((2 ^ k : Nat) : Int) := by simp
    rw [this]; have hp' : 2 ^ k < 4294967296 := hp; generalize 2 ^ k = q at *; omega
  rw [e]
  unfold w32
  rw [bit_toNat k h]
/-- The lowest k bits. -/
def low (r : UInt32) (k : Nat) : UInt32 := UInt32.ofNat (r.toNat % 2 ^ k)
theorem low_toNat (r : UInt32) (k : Nat) : (low r k).toNat = r.toNat % 2 ^ k := by
  unfold low
  rw [UInt32.toNat_ofNat']
  exact Nat.mod_eq_of_lt (Nat.lt_of_le_of_lt (Nat.mod_le _ _) r.toNat_lt)
theorem low_zero (r : UInt32) : low r 0 = 0 := by apply UInt32.toNat_inj.1; rw [low_toNat]; simp [Nat.mod_one]
theorem low_all (r : UInt32) : low r 32 = r := by apply UInt32.toNat_inj.1; rw [low_toNat]; exact Nat.mod_eq_of_lt r.toNat_lt
theorem low_no (r : UInt32) (k : Nat) (hk : k < 32) (h : r &&& bit k = 0) : low r (k + 1) = low r k := by
  apply UInt32.toNat_inj.1
  rw [low_toNat, low_toNat]
  have h1 := congrArg UInt32.toNat h
  rw [UInt32.toNat_and, bit_toNat k hk] at h1
  have hb : r.toNat.testBit k = false := by
    have h2 := congrArg (fun n : Nat => n.testBit k) h1
    simpa [Nat.testBit_and, Nat.testBit_two_pow_self] using h2
  apply Nat.eq_of_testBit_eq
  intro i
  rw [Nat.testBit_mod_two_pow, Nat.testBit_mod_two_pow]
  by_cases e : i = k
  · subst e; simp [hb]
  · by_cases h' : i < k
    · simp [h', show i < k + 1 by omega]
    · simp [h', show ¬ i < k + 1 by omega]
theorem low_yes (r : UInt32) (k : Nat) (hk : k < 32) (h : r &&& bit k ≠ 0) : low r (k + 1) = low r k ^^^ bit k := by
  apply UInt32.toNat_inj.1
  rw [UInt32.toNat_xor, low_toNat, low_toNat, bit_toNat k hk]
  have hb : r.toNat.testBit k = true := by
    cases hb : r.toNat.testBit k with
    | true => rfl
    | false =>
      exfalso; apply h
      apply UInt32.toNat_inj.1
      rw [UInt32.toNat_and, bit_toNat k hk]
      apply Nat.eq_of_testBit_eq
      intro i
      rw [Nat.testBit_and, Nat.testBit_two_pow]
      by_cases e : k = i
      · subst e; simp [hb]
      · simp [e]
  apply Nat.eq_of_testBit_eq
  intro i
  rw [Nat.testBit_mod_two_pow, Nat.testBit_xor, Nat.testBit_mod_two_pow, Nat.testBit_two_pow]
  by_cases e : i = k
  · subst e; simp [hb]
  · by_cases h' : i < k
    · simp [h', show i < k + 1 by omega, Ne.symm e]
    · simp [h', show ¬ i < k + 1 by omega, Ne.symm e]
/-- What a map makes of each bit, the first k of them (the others nought). -/
def wayTo (f : UInt32 → UInt32) (k : Nat) : List Value := (List.range 32).map fun j => .int .u32 (w32 (if j < k then f (bit j) else 0))
def wayOf (f : UInt32 → UInt32) : List Value := (List.range 32).map fun j => .int .u32 (w32 (f (bit j)))
theorem wayTo_all (f : UInt32 → UInt32) : wayTo f 32 = wayOf f := by
  unfold wayTo wayOf
  apply List.map_congr_left
  intro j hj
  rw [if_pos (by simpa using hj)]
theorem way_get (f : UInt32 → UInt32) (j : Nat) (hj : j < 32) : (wayOf f).toArray[j]? = some (.int .u32 (w32 (f (bit j)))) := by simp [wayOf, hj]
theorem wayTo_get (f : UInt32 → UInt32) (k j : Nat) (hj : j < 32) : (wayTo f k).toArray[j]? = some (.int .u32 (w32 (if j < k then f (bit j) else 0))) := by simp [wayTo, hj]
theorem wayTo_succ (f : UInt32 → UInt32) (k : Nat) : (wayTo f k).toArray.setIfInBounds k (.int .u32 (w32 (f (bit k)))) = (wayTo f (k+1)).toArray := by
  apply Array.ext
  · simp [wayTo]
  · intro i h1 h2
    simp [wayTo]
    by_cases h : k = i
    · simp [h]
    · simp [h]
      by_cases h' : i < k
      · simp [h', show i < k+1 by omega]
      · simp [h', show ¬ i < k+1 by omega]
theorem wayOf_size (f : UInt32 → UInt32) : (wayOf f).toArray.size = 32 := by simp [wayOf]
theorem wayTo_size (f : UInt32 → UInt32) (k : Nat) : (wayTo f k).toArray.size = 32 := by simp [wayTo]
theorem w_ne0 (r : UInt32) : (w32 r != 0) = !decide (r = 0) := by
  have := w_eq0 r
  rw [bne, this]

attribute [local go_sem ↓] s_shl1
attribute [local go_sem] w_xor w_and w_ne0
theorem of_c (f : UInt32 → UInt32) (hf : ∀ a b, f (a ^^^ b) = f a ^^^ f b) (g : Nat) (r : UInt32) (w : World) (h : w.heap[g]? = some (.cells (wayOf f).toArray 80 (0, 0))) :
    Calls Try.prog 48 #[.pointer (some ⟨g, 0, none⟩), .int .u32 (w32 r)] w fun e w' => e = .returned (.int .u32 (w32 (f r))) ∧ ∃ n, w' = w.drewN n := by
  have f0 : f 0 = 0 := by have := hf 0 0; simpa using this
  have F0 := Lib.hid f0; clear f0
  have HF := Lib.hid hf; clear hf
  have H := Lib.hid h; clear h
  go_enter Try.func48, Try.ntmps48
  go_wp2
  go_loopw [5, 9] (fun o i wr => ∃ k : Nat, k ≤ 32 ∧ i = .int .i64 k ∧ o = .int .u32 (w32 (f (low r k))) ∧ ∃ n, wr = w.drewN n) (fun _ i _ => 32 - (intOf i).toNat)
  case atStart => exact ⟨0, by omega, rfl, by rw [low_zero, F0.out]; rfl, 0, rfl⟩
  case round =>
    obtain ⟨k, hk, rfl, rfl, n, rfl⟩ := hrel
    by_cases hlt : k < 32
    · have hc : w.cell? ⟨g, k, none⟩ = some (.int .u32 (w32 (f (bit k)))) := (blk_cell H.out k).trans (way_get f k hlt)
      by_cases hb : r &&& bit k = 0
      · have HB := Lib.hid hb
        have e1 : (!decide (r &&& bit k = 0)) = false := by simpa using hb
        clear hb
        go_wp2
        go_quiet (fail)
        go_wp2
        exact ⟨⟨k + 1, by omega, by go_num, by rw [low_no r k hlt HB.out], _, rfl⟩, by simp [intOf]; omega⟩
      · have HB := Lib.hid hb
        have e1 : (!decide (r &&& bit k = 0)) = true := by simpa using hb
        clear hb
        go_wp2
        go_quiet (fail)
        go_wp2
        exact ⟨⟨k + 1, by omega, by go_num, by rw [low_yes r k hlt HB.out, HF.out], _, rfl⟩, by simp [intOf]; omega⟩
    · obtain rfl : k = 32 := by omega
      go_wp2
      go_ret
      exact ⟨by rw [low_all]; rfl, _, rfl⟩

def step8 (r : UInt32) : UInt32 := step4 (step4 r)
theorem step8_xor (a b : UInt32) : step8 (a ^^^ b) = step8 a ^^^ step8 b := by simp only [step8, step4_xor]
theorem over_zero (r : UInt32) : overW r [0] = step8 r := by
  show step4 (step4 (r ^^^ (0 : UInt8).toUInt32)) = _
  rw [show (0 : UInt8).toUInt32 = 0 from rfl, UInt32.xor_zero]; rfl
theorem zeroByte_c (w : World) : Calls Try.prog 47 #[] w fun e w' => e = .returned (.agg (wayOf step8).toArray) ∧ Ext w w' := by
  go_enter Try.func47, Try.ntmps47
  go_wp2
  go_loopw [3] (fun i wr => ∃ k : Nat, k ≤ 32 ∧ i = .int .i64 k ∧ wr.heap[w.heap.size+1]? = some (.cells (wayTo step8 k).toArray 80 (0,0)) ∧ (∃ z, wr.heap[w.heap.size]? = some (.cells z 80 (0,0)) ∧ z.size = 32) ∧ Ext w wr) (fun i _ => 32 - (intOf i).toNat)
  case atStart => exact ⟨0, by omega, rfl, by rw [heap_alloc2_new]; rfl, ⟨_, heap_alloc2_old _ _ _, rfl⟩, ((Ext.refl _).al _).al _⟩
  case round =>
    obtain ⟨k, hk, rfl, hb, ⟨z, hz, hzs⟩, hB⟩ := hrel
    by_cases hlt : k < 32
    · have hc := (cell_of_row wr (w.heap.size+1) k _ _ _ hb).trans (wayTo_get step8 k k hlt)
      have hf := frozen_of_row wr (w.heap.size+1) k _ _ hb
      have hlt0 := blk_lt hb
      have HBk := Lib.hid hb; clear hb
      have HZ := Lib.hid hz; clear hz
      have HE := Lib.hid hB; clear hB
      have hsl : SlV vB (wr.alloc (.cells #[.int .u8 0] 5)) (.slice (some ⟨wr.heap.size, 0, none⟩) 1 1) [0] := (OwnS.lit (enc := vB) (base := 0) (xs := [0]) wr (Nat.zero_le _) (by decide)).sl
      have HS := Lib.hid hsl; clear hsl
      go_wp2_with (go_at_call 46; with_reducible refine (over_c (bit k) _ [0] _ HS.out).mono ?_; rintro e w1 ⟨rfl, hE⟩; have hb1 := hE.heap (blk_al HBk.out _); have hz1 := Lib.hid (hE.heap (blk_al HZ.out _)); have hc1 := (blk_cell hb1 k).trans (wayTo_get step8 k k hlt); have hf1 := blk_fr hb1 k; have HB1 := Lib.hid hb1; clear hb1)
      refine ⟨⟨k + 1, by omega, by go_num, by rw [blk_set HB1.out]; exact congrArg (fun c => some (Obj.cells c 80 (0,0))) (by rw [over_zero]; exact wayTo_succ step8 k), ⟨z, by rw [heap_setCell_other _ _ _ _ (by simp)]; exact hz1.out, hzs⟩, ((HE.out.al _).tr hE).set (by simp) _⟩, by simp [intOf]; omega⟩
    · obtain rfl : k = 32 := by omega
      have hts := wayTo_size step8 32
      have HT := Lib.hid hts; clear hts
      go_wp2_with (first | (refine wpList_load_row rfl 80 (.tmp 1) rfl _ rfl _ _ _ _ hb Try.underlying80 rfl (by rw [HT.out]; kernel_rfl) ?_) | (refine wpList_store_blk rfl rfl 80 (.tmp 0) (.tmp 13) rfl _ _ rfl rfl _ _ hz (by rw [HT.out]; kernel_rfl) (by rw [HT.out]; omega) (by simp [wayTo, Value.oneCell']) ?_; intro w2 hb2 hg2))
      refine bodyPost_ret (results_cell_row rfl _ _ _ _ _ _ _ rfl hb2 Try.underlying80 rfl (by rw [HT.out]; kernel_rfl)) rfl ⟨by rw [wayTo_all], hB.gr hg2 (by simp)⟩

/-- Half way from a map's bits to those of the map done twice. -/
def way2 (f : UInt32 → UInt32) (k : Nat) : List Value := (List.range 32).map fun j => .int .u32 (w32 (if j < k then f (f (bit j)) else f (bit j)))
theorem way2_size (f : UInt32 → UInt32) (k : Nat) : (way2 f k).toArray.size = 32 := by simp [way2]
theorem way2_zero (f : UInt32 → UInt32) : way2 f 0 = wayOf f := by simp [way2, wayOf]
theorem way2_all (f : UInt32 → UInt32) : way2 f 32 = wayOf (fun r => f (f r)) := by
  unfold way2 wayOf
  apply List.map_congr_left
  intro j hj
  rw [if_pos (by simpa using hj)]
theorem way2_get (f : UInt32 → UInt32) (k j : Nat) (hj : j < 32) : (way2 f k).toArray[j]? = some (.int .u32 (w32 (if j < k then f (f (bit j)) else f (bit j)))) := by simp [way2, hj]
theorem way2_succ (f : UInt32 → UInt32) (k : Nat) : (way2 f k).toArray.setIfInBounds k (.int .u32 (w32 (f (f (bit k))))) = (way2 f (k+1)).toArray := by
  apply Array.ext
  · simp [way2]
  · intro i h1 h2
    simp [way2]
    by_cases h : k = i
    · simp [h]
    · simp [h]
      by_cases h' : i < k
      · simp [h', show i < k+1 by omega]
      · simp [h', show ¬ i < k+1 by omega]
set_option maxHeartbeats 1000000 in
theorem twice_c (f : UInt32 → UInt32) (hf : ∀ a b, f (a ^^^ b) = f a ^^^ f b) (w : World) :
    Calls Try.prog 49 #[.agg (wayOf f).toArray] w fun e w' => e = .returned (.agg (wayOf (fun r => f (f r))).toArray) ∧ Ext w w' := by
  have HF := Lib.hid hf; clear hf
  have hts := wayOf_size f
  have HT := Lib.hid hts; clear hts
  go_enter Try.func49, Try.ntmps49
  go_wp2_with (first | (refine wpList_load_row rfl 80 (.tmp 1) rfl _ rfl _ _ _ _ (heap_alloc2_old _ _ _) Try.underlying80 rfl (by rw [HT.out]; kernel_rfl) ?_) | (refine wpList_store_blk rfl rfl 80 (.tmp 3) (.tmp 5) rfl _ _ rfl rfl _ _ (al3 _ _ _ _) (by rw [HT.out]; kernel_rfl) (by rw [HT.out]; rfl) (by simp [wayOf, Value.oneCell']) ?_; intro w2 hb2 hg2))
  have hE2 : Ext w w2 := ((((Ext.refl w).al _).al _).al _).gr hg2 (by simp; omega)
  have hp2 := (hg2.block w.heap.size (by simp <;> omega) (by simp <;> omega)).trans (blk_al (blk_al (heap_alloc_new w (.cells (wayOf f).toArray 80)) _) _)
  have hz2 := (hg2.block (w.heap.size + 1) (by simp <;> omega) (by simp <;> omega)).trans (blk_al (heap_alloc2_new w _ _) _)
  clear hg2
  have HP := Lib.hid hp2; clear hp2
  have HB := Lib.hid hb2; clear hb2
  have HZ := Lib.hid hz2; clear hz2
  have HE := Lib.hid hE2; clear hE2
  go_loopw [6] (fun i wr => ∃ k : Nat, k ≤ 32 ∧ i = .int .i64 k ∧ wr.heap[w.heap.size]? = some (.cells (wayOf f).toArray 80 (0,0)) ∧ wr.heap[w.heap.size+1+1]? = some (.cells (way2 f k).toArray 80 (0,0)) ∧ (∃ z, wr.heap[w.heap.size+1]? = some (.cells z 80 (0,0)) ∧ z.size = 32) ∧ Ext w wr) (fun i _ => 32 - (intOf i).toNat)
  case atStart => exact ⟨0, by omega, rfl, HP.out, by rw [way2_zero]; exact HB.out, ⟨_, HZ.out, rfl⟩, HE.out⟩
  case round =>
    clear HP HB HZ HE
    obtain ⟨k, hk, rfl, hp, hb, ⟨z, hz, hzs⟩, hB⟩ := hrel
    have HP := Lib.hid hp
    have HE := Lib.hid hB; clear hB
    by_cases hlt : k < 32
    · have hc := (blk_cell hp k).trans (way_get f k hlt)
      have hd := (blk_cell hb k).trans (way2_get f k k hlt)
      have hf := blk_fr hb k
      have HB := Lib.hid hb
      have HZ := Lib.hid hz
      clear hp hb hz
      go_wp2_with (go_at_call 48; with_reducible refine (of_c f HF.out _ _ _ HP.out).mono ?_; rintro e w1 ⟨rfl, n, rfl⟩)
      refine ⟨⟨k + 1, by omega, by go_num, ?_, (blk_set (w := wr.drewN n) HB.out k _).trans (congrArg (fun c => some (Obj.cells c 80 (0,0))) (way2_succ f k)), ⟨z, ?_, hzs⟩, (HE.out.drN n).set (by simp; omega) _⟩, by simp [intOf]; omega⟩
      · rw [heap_setCell_other _ _ _ _ (by simp; omega)]; exact HP.out
      · rw [heap_setCell_other _ _ _ _ (by simp)]; exact HZ.out
    · obtain rfl : k = 32 := by omega
      have hts := way2_size f 32
      have HS := Lib.hid hts; clear hts
      clear hp
      go_wp2_with (first | (refine wpList_load_row rfl 80 (.tmp 3) rfl _ rfl _ _ _ _ hb Try.underlying80 rfl (by rw [HS.out]; kernel_rfl) ?_) | (refine wpList_store_blk rfl rfl 80 (.tmp 2) (.tmp 16) rfl _ _ rfl rfl _ _ hz (by rw [HS.out]; kernel_rfl) (by rw [HS.out]; omega) (by simp [way2, Value.oneCell']) ?_; intro w2 hb2 hg2))
      refine bodyPost_ret (results_cell_row rfl _ _ _ _ _ _ _ rfl hb2 Try.underlying80 rfl (by rw [HS.out]; kernel_rfl)) rfl ⟨by rw [way2_all], HE.out.gr hg2 (by simp)⟩
end Go.Proofs.Ytmcgcfbdofpfdaa
