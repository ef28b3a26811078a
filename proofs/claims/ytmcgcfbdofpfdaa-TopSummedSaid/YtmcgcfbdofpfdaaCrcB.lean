/- The walks of the sums: over, More, Sum, Blind, the stream's methods; copied, over6, sum6 of the statement's own side. -/
import Derived.Test.YtmcgcfbdofpfdaaCrcM
namespace Go.Proofs.Ytmcgcfbdofpfdaa
open Go.RowKit
attribute [local go_sem ↓] s_shr1 s_shr4
attribute [local go_sem] w_xor w_xorc w_and1 w_and15 w_xor8 w_test1

theorem u32conv (x : UInt8) : IntKind.u32.wrap (b8 x) = b8 x := IntWalk.u32_in _ (by have := u8_r x; omega)
theorem and15_lt (r : UInt32) : w32 (r &&& 15) < 16 := by
  unfold w32; rw [UInt32.toNat_and, show (15:UInt32).toNat = 2 ^ 4 - 1 from rfl, Nat.and_two_pow_sub_one_eq_mod]; omega
theorem tab_at (r : UInt32) : (tabTo 16).toArray[(w32 (r &&& 15)).toNat]? = some (.int .u32 (w32 (step4 (r &&& 15)))) := by
  have h := and15_lt r
  have h0 := (u32_r (r &&& 15)).1
  rw [tabTo_get 16 _ (by omega), if_pos (by omega)]
  congr 5
  apply UInt32.toNat_inj.1
  rw [UInt32.toNat_ofNat']
  have := (r &&& 15).toNat_lt
  unfold w32
  omega
attribute [local go_sem] u32conv

theorem over_c (r : UInt32) (v : Value) (bs : List UInt8) (w : World) (hv : SlV vB w v bs) :
    Calls Try.prog 46 #[.int .u32 (w32 r), v] w fun e w' => e = .returned (.int .u32 (w32 (overW r bs))) ∧ Ext w w' := by
  obtain ⟨A, c, rfl, hlc, hcm, hr⟩ := hv
  unfold maxLen at hcm
  have HR := Lib.hid hr; clear hr
  go_enter Try.func46, Try.ntmps46
  have hts : (tabTo 16).toArray.size = 16 := by simp [tabTo]
  have HT := Lib.hid hts; clear hts
  go_wp2_with (first | (go_at_call 66; refine (halves_c _).mono ?_; rintro e w1 ⟨rfl, hE⟩) | (refine wpList_store_blk rfl rfl 115 (.tmp 5) (.tmp 8) rfl _ _ rfl rfl _ _ (heap_alloc_new _ _) (by rw [HT.out]; kernel_rfl) (by rw [HT.out]; rfl) (by simp [tabTo, Value.oneCell']) ?_; intro w2 hb2 hg2))
  have hE2 : Ext w w2 := (hE.al _).gr hg2 (by simp; exact hE.size)
  clear hg2 hE
  have hc2 : ∀ r : UInt32, w2.cell? ⟨w1.heap.size, (w32 (r &&& 15)).toNat, none⟩ = some (.int .u32 (w32 (step4 (r &&& 15)))) := fun r => (blk_cell hb2 _).trans (tab_at r)
  have hl : ∀ r : UInt32, w32 (r &&& 15) < 16 := and15_lt
  have h0 : ∀ r : UInt32, 0 ≤ w32 r := fun r => (u32_r r).1
  have HB := Lib.hid hb2; clear hb2
  have HE := Lib.hid hE2; clear hE2
  go_loop [0, 11] (fun r0 i => ∃ k : Nat, k ≤ bs.length ∧ i = .int .i64 k ∧ r0 = .int .u32 (w32 (overW r (bs.take k)))) (fun _ i => bs.length - (intOf i).toNat)
  case atStart => exact ⟨0, by omega, rfl, rfl⟩
  case round =>
    obtain ⟨k, hk, rfl, rfl⟩ := hrel
    by_cases hlt : k < bs.length
    · obtain ⟨b, o, rfl, hbl, hcell⟩ := HR.out.at_ hlt
      have hcell2 := HE.out.cl hcell
      clear hcell
      unfold vB at hcell2
      go_wp2
      refine ⟨⟨k + 1, by omega, by go_num, ?_⟩, by simp [intOf]; omega⟩
      rw [overW_take _ _ _ hlt, nib, nib]
    · obtain rfl : k = bs.length := by omega
      go_wp2
      go_ret
      exact ⟨by simp, HE.out⟩

theorem w_not (r : UInt32) : bits .xor .u32 IntKind.u32.max (w32 r) = w32 (~~~ r) := by
  have h := w_xor 4294967295 r
  rw [show (4294967295 : UInt32) ^^^ r = ~~~ r from by rw [UInt32.xor_comm]; exact UInt32.xor_neg_one] at h
  exact h
/-- The sum behind bytes whose sum is known. -/
def moreW (s : UInt32) (bs : List UInt8) : UInt32 := ~~~ overW (~~~ s) bs
def sumW (bs : List UInt8) : UInt32 := moreW 0 bs
attribute [local go_sem] w_not
theorem more_c (s : UInt32) (v : Value) (bs : List UInt8) (w : World) (hv : SlV vB w v bs) :
    Calls Try.prog 9 #[.int .u32 (w32 s), v] w fun e w' => e = .returned (.int .u32 (w32 (moreW s bs))) ∧ Ext w w' := by
  go_enter Try.func9, Try.ntmps9
  go_wp2_with (go_at_call 46; with_reducible refine (over_c _ _ _ _ hv).mono ?_; rintro e w1 ⟨rfl, hE⟩)
  go_ret
  exact ⟨rfl, hE⟩
theorem sum_c (v : Value) (bs : List UInt8) (w : World) (hv : SlV vB w v bs) :
    Calls Try.prog 6 #[v] w fun e w' => e = .returned (.int .u32 (w32 (sumW bs))) ∧ Ext w w' := by
  have h := more_c 0 v bs w hv
  rw [show w32 0 = 0 from rfl] at h
  have H := Lib.hid h; clear h
  go_enter Try.func6, Try.ntmps6
  go_wp2_with (go_at_call 9; with_reducible refine H.out.mono ?_; rintro e w1 ⟨rfl, hE⟩)
  go_ret
  exact ⟨rfl, hE⟩
theorem w_eq0 (r : UInt32) : (w32 r == 0) = decide (r = 0) := by
  rw [Bool.eq_iff_iff]; simp; exact u32_inj (b := 0)
attribute [local go_sem] w_eq0
theorem blind_c (v : Value) (bs : List UInt8) (w : World) (hv : SlV vB w v bs) :
    Calls Try.prog 15 #[v] w fun e w' => e = .returned (.bool (decide (overW 0 bs = 0))) ∧ Ext w w' := by
  have h := over_c 0 v bs w hv
  rw [show w32 0 = 0 from rfl] at h
  have H := Lib.hid h; clear h
  go_enter Try.func15, Try.ntmps15
  go_wp2_with (go_at_call 46; with_reducible refine H.out.mono ?_; rintro e w1 ⟨rfl, hE⟩)
  go_ret
  exact ⟨rfl, hE⟩

/-! ### the stream -/
def StreamAt (w : World) (g : Nat) (s : UInt32) (n : Int) : Prop := w.heap[g]? = some (.cells #[.int .u32 (w32 s), .int .u64 n] 30 (0, 0))
theorem ssum_c (g : Nat) (s : UInt32) (n : Int) (w : World) (h : StreamAt w g s n) :
    Calls Try.prog 12 #[.pointer (some ⟨g, 0, none⟩)] w fun e w' => e = .returned (.int .u32 (w32 s)) ∧ w = w' := by
  have hc : w.cell? ⟨g, 0, none⟩ = some (.int .u32 (w32 s)) := blk_cell h 0
  clear h
  go_enter Try.func12, Try.ntmps12
  go_wp2
  go_ret
  exact ⟨rfl, rfl⟩
theorem slen_c (g : Nat) (s : UInt32) (n : Int) (w : World) (h : StreamAt w g s n) :
    Calls Try.prog 13 #[.pointer (some ⟨g, 0, none⟩)] w fun e w' => e = .returned (.int .u64 n) ∧ w = w' := by
  have hc : w.cell? ⟨g, 1, none⟩ = some (.int .u64 n) := blk_cell h 1
  clear h
  go_enter Try.func13, Try.ntmps13
  go_wp2
  go_ret
  exact ⟨rfl, rfl⟩
theorem sreset_c (g : Nat) (s : UInt32) (n : Int) (w : World) (h : StreamAt w g s n) :
    Calls Try.prog 16 #[.pointer (some ⟨g, 0, none⟩)] w fun e w' => e = .returned (.tuple #[]) ∧ StreamAt w' g 0 0 ∧ w.grownBy w' (some g) := by
  have hc : w.cell? ⟨g, 0, none⟩ = some (.int .u32 (w32 s)) := blk_cell h 0
  have hc1 : w.cell? ⟨g, 1, none⟩ = some (.int .u64 n) := blk_cell h 1
  have hf : ∀ i, w.frozen? ⟨g, i, none⟩ = false := blk_fr h
  have H := Lib.hid h; clear h
  go_enter Try.func16, Try.ntmps16
  go_wp2
  go_end0
  exact ⟨rfl, blk_set (blk_set H.out _ _) _ _, gb_set (gb_set (gb_ext (Ext.refl _) _) _ _) _ _⟩
theorem swrite_c (g : Nat) (s : UInt32) (n : Int) (v : Value) (bs : List UInt8) (w : World) (h : StreamAt w g s n) (hn : 0 ≤ n) (hn2 : n + bs.length < 18446744073709551616) (hv : SlV vB w v bs) :
    Calls Try.prog 11 #[.pointer (some ⟨g, 0, none⟩), v] w fun e w' => e = .returned (.tuple #[]) ∧ StreamAt w' g (moreW s bs) (n + bs.length) ∧ w.grownBy w' (some g) := by
  have hc : w.cell? ⟨g, 0, none⟩ = some (.int .u32 (w32 s)) := blk_cell h 0
  have hc1 : w.cell? ⟨g, 1, none⟩ = some (.int .u64 n) := blk_cell h 1
  have hf : ∀ i, w.frozen? ⟨g, i, none⟩ = false := blk_fr h
  have hg : g < w.heap.size := blk_lt h
  have hv' := hv
  obtain ⟨A, c, rfl, hlc, hcm, hr⟩ := hv
  unfold maxLen at hcm
  clear hr
  have H := Lib.hid h; clear h
  have HV := Lib.hid hv'; clear hv'
  go_enter Try.func11, Try.ntmps11
  go_wp2_with (go_at_call 9; with_reducible refine (more_c _ _ _ _ HV.out).mono ?_; rintro e w1 ⟨rfl, hE⟩; have hE1 := hE.bc.1; have hE2 := hE.bc.2)
  go_end0
  exact ⟨rfl, blk_set (blk_set (hE.heap H.out) _ _) _ _, gb_set (gb_set (gb_ext hE _) _ _) _ _⟩

/-! ### the statement's own side -/
theorem info8 : (Try.prog.info? 5).map (fun i => (i.zero, i.size, i.bytes)) = some (some (.int .u8 0), 1, 1) := by kernel_rfl
theorem copied_c (v : Value) (bs : List UInt8) (w : World) (hv : SlV vB w v bs) (hn : bs.length ≤ 140737488355328) :
    Calls Try.prog 7 #[v] w fun e w' => ∃ v', e = .returned v' ∧ OwnS vB 5 w' w.heap.size v' bs ∧ Ext w w' := by
  obtain ⟨A, c, rfl, hlc, hcm, hr⟩ := hv
  unfold maxLen at hcm
  have HR := Lib.hid hr; clear hr
  go_enter Try.func7, Try.ntmps7
  go_wp2_with (refine wpList_append_S (enc := vB) (fun _ _ => rfl) rfl (.const (.slice none 0 0)) (.tmp 3) 22 5 _ 1 w.heap.size rfl Try.underlying22 info8 rfl (v := .slice none 0 0) rfl (OwnS.nil _ _) rfl rfl HR.out (by simp [maxLen]; omega) (by simp; omega) (Nat.le_refl _) ?_; intro v1 w1 ho hg ha)
  go_ret
  exact ⟨v1, rfl, by simpa using ho, (Ext.refl w).gr hg (by simp [Value.ownBlock])⟩

def stepI : Nat → UInt32 → UInt32
  | 0, r => r
  | n + 1, r => stepW (stepI n r)
theorem stepI8 (r : UInt32) : stepI 8 r = step4 (step4 r) := rfl
theorem over6_c (r : UInt32) (v : Value) (bs : List UInt8) (w : World) (hv : SlV vB w v bs) :
    Calls Try.prog 14 #[.int .u32 (w32 r), v] w fun e w' => e = .returned (.int .u32 (w32 (overW r bs))) ∧ w = w' := by
  obtain ⟨A, c, rfl, hlc, hcm, hr⟩ := hv
  unfold maxLen at hcm
  have HR := Lib.hid hr; clear hr
  go_enter Try.func14, Try.ntmps14
  go_wp2
  go_loop [0, 9] (fun r0 i => ∃ k : Nat, k ≤ bs.length ∧ i = .int .i64 k ∧ r0 = .int .u32 (w32 (overW r (bs.take k)))) (fun _ i => bs.length - (intOf i).toNat)
  case atStart => exact ⟨0, by omega, rfl, rfl⟩
  case round =>
    obtain ⟨k, hk, rfl, rfl⟩ := hrel
    by_cases hlt : k < bs.length
    · obtain ⟨b, o, rfl, hbl, hcell⟩ := HR.out.at_ hlt
      unfold vB at hcell
      go_wp2
      go_loop [0, 17] (fun r0 i => ∃ j : Nat, j ≤ 8 ∧ i = .int .i64 j ∧ r0 = .int .u32 (w32 (stepI j (overW r (bs.take k) ^^^ bs[k].toUInt32)))) (fun _ i => 8 - (intOf i).toNat)
      case atStart => exact ⟨0, by omega, rfl, rfl⟩
      case round =>
        obtain ⟨j, hj, rfl, rfl⟩ := hrel
        by_cases hj8 : j < 8
        · generalize hx : stepI j (overW r (bs.take k) ^^^ bs[k].toUInt32) = x
          have HX := Lib.hid hx; clear hx
          by_cases h1 : x &&& 1 = 1
          · have H := Lib.hid h1
            have e1 : decide (x &&& 1 = 1) = true := by simpa using h1
            clear h1
            go_wp2
            refine ⟨⟨j + 1, by omega, by go_num, ?_⟩, by simp [intOf]; omega⟩
            simp only [stepI, HX.out, stepW, H.out, if_true]
          · have H := Lib.hid h1
            have e1 : decide (x &&& 1 = 1) = false := by simpa using h1
            clear h1
            go_wp2
            refine ⟨⟨j + 1, by omega, by go_num, ?_⟩, by simp [intOf]; omega⟩
            have := H.out
            simp only [stepI, HX.out, stepW, this, if_false]
        · obtain rfl : j = 8 := by omega
          go_wp2
          refine ⟨⟨k + 1, by omega, by go_num, ?_⟩, by simp [intOf]; omega⟩
          rw [overW_take _ _ _ hlt, stepI8]
    · obtain rfl : k = bs.length := by omega
      go_wp2
      go_ret
      exact ⟨by simp, rfl⟩
theorem sum6_c (v : Value) (bs : List UInt8) (w : World) (hv : SlV vB w v bs) :
    Calls Try.prog 8 #[v] w fun e w' => e = .returned (.int .u32 (w32 (sumW bs))) ∧ w = w' := by
  have h := over6_c 4294967295 v bs w hv
  rw [show w32 4294967295 = 4294967295 from rfl] at h
  have H := Lib.hid h; clear h
  go_enter Try.func8, Try.ntmps8
  go_wp2_with (go_at_call 14; with_reducible refine H.out.mono ?_; rintro e w1 ⟨rfl, rfl⟩)
  go_ret
  exact ⟨rfl, rfl⟩
end Go.Proofs.Ytmcgcfbdofpfdaa
