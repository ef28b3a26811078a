/- The walks of the frame's first bytes and of a block's own sum. -/
import Derived.Test.YtmcgcfbdofpfdaaFrameB
namespace Go.Proofs.Ytmcgcfbdofpfdaa
open Go.RowKit
theorem mark_c (w : World) : Calls Try.prog 90 #[] w fun e w' => e = .returned (.agg #[.int .u8 67, .int .u8 82, .int .u8 78, .int .u8 2]) ∧ Ext w w' := by
  go_enter Try.func90, Try.ntmps90
  go_wp2
  exact bodyPost_ret (v := .agg #[.int .u8 67, .int .u8 82, .int .u8 78, .int .u8 2]) (by simp [results, Try.results90, go_sem]) rfl ⟨rfl, (Ext.refl w).al _⟩
theorem StreamAt.ext {w w' : World} {g : Nat} {s : UInt32} {n : Int} (h : StreamAt w g s n) (hE : Ext w w') : StreamAt w' g s n := hE.heap (o := .cells #[.int .u32 (w32 s), .int .u64 n] 30 (0, 0)) h
theorem moreW_append (s : UInt32) (a b : List UInt8) : moreW (moreW s a) b = moreW s (a ++ b) := by
  unfold moreW overW
  rw [UInt32.not_not, List.foldl_append]
/-- The sum of a block of that number. -/
def ownW (head : UInt32) (j : Nat) (block : List UInt8) : UInt32 := sumW (le4 head ++ le4 (UInt32.ofNat j) ++ block)
theorem own_c (head : UInt32) (j : Nat) (v : Value) (bs : List UInt8) (w : World) (hj : j < 4294967296) (hv : SlV vB w v bs) (hn : bs.length ≤ 70368744177664) :
    Calls Try.prog 76 #[.int .u32 (w32 head), .int .i64 (j : Int), v] w fun e w' => e = .returned (.int .u32 (w32 (ownW head j bs))) ∧ Ext w w' := by
  have HV := Lib.hid hv; clear hv
  have hp : ∀ (v : Value) (bs : List UInt8) (w : World), SlV vB w v bs → bs.length ≤ 70368744177664 → Calls Try.prog 75 #[v, .int .u32 (j : Int)] w fun e w' => ∃ v', e = .returned v' ∧ OwnS vB 5 w' w.heap.size v' (bs ++ le4 (UInt32.ofNat j)) ∧ Ext w w' := by
    intro v bs w h1 h2
    have := put32_c (UInt32.ofNat j) v bs w h1 h2
    rwa [u32_nat j hj] at this
  have HP := Lib.hid hp; clear hp
  have hs0 : StreamAt (w.alloc (.cells #[.int .u32 0, .int .u64 0] 30)) w.heap.size 0 0 := heap_alloc_new _ _
  have HS := Lib.hid hs0; clear hs0
  have q1 : IntKind.u32.wrap (j : Int) = (j : Int) := IntWalk.u32_in _ (by omega)
  have hl4 : ∀ x : UInt32, (le4 x).length = 4 := fun x => rfl
  have HL := Lib.hid hl4; clear hl4
  go_enter Try.func76, Try.ntmps76
  go_wp2_with (first | (go_at_call 75; with_reducible refine (put32_c _ _ _ _ (SlV.nil _) (Nat.zero_le _)).mono ?_; rintro e w1 ⟨v1, rfl, ho1, hE1⟩; have HO1 := Lib.hid ho1) | (go_at_call 75; with_reducible refine (HP.out _ _ _ HO1.out.sl (by simp [HL.out])).mono ?_; rintro e w2 ⟨v2, rfl, ho2, hE2⟩; have HO2 := Lib.hid ho2; have HS2 := Lib.hid ((HS.out.ext hE1).ext hE2)) | (go_at_call 11; with_reducible refine (swrite_c _ _ _ _ _ _ HS2.out (by omega) (by simp [HL.out]) HO2.out.sl).mono ?_; rintro e w3 ⟨rfl, hs3, hg3⟩; have HS3 := Lib.hid hs3; have HE3 := Lib.hid (((((Ext.refl w).al _).tr hE1).tr hE2).gr hg3 (by simp))) | (go_at_call 11; with_reducible refine (swrite_c _ _ _ _ _ _ HS3.out (by simp [HL.out]) (by simp [HL.out]; omega) (HV.out.ext HE3.out)).mono ?_; rintro e w4 ⟨rfl, hs4, hg4⟩; have HS4 := Lib.hid hs4) | (go_at_call 12; with_reducible refine (ssum_c _ _ _ _ HS4.out).mono ?_; rintro e w5 ⟨rfl, rfl⟩))
  go_ret
  refine ⟨?_, HE3.out.gr hg4 (by simp)⟩
  rw [moreW_append]; rfl
/-- The first bytes of a head's form. -/
def Hd.stB (h : Hd) : List UInt8 := [h.s0, h.s1, h.s2, h.s3, h.s4, h.s5, h.s6, h.s7]
def Hd.firstB (h : Hd) : List UInt8 :=
  [67, 82, 78, 2] ++ h.stB ++ [UInt8.ofNat h.k, UInt8.ofNat h.m] ++ le4 (UInt32.ofNat h.b) ++ le4 (UInt32.ofNat h.size) ++ [UInt8.ofNat h.index] ++ le4 (UInt32.ofNat h.epoch) ++ le4 (UInt32.ofNat h.count) ++ [UInt8.ofNat h.key.size]
theorem put32n_c (n : Nat) (v : Value) (bs : List UInt8) (w : World) (hn4 : n < 4294967296) (hv : SlV vB w v bs) (hn : bs.length ≤ 70368744177664) :
    Calls Try.prog 75 #[v, .int .u32 (n : Int)] w fun e w' => ∃ v', e = .returned v' ∧ OwnS vB 5 w' w.heap.size v' (bs ++ le4 (UInt32.ofNat n)) ∧ Ext w w' := by
  have := put32_c (UInt32.ofNat n) v bs w hv hn
  rwa [u32_nat n hn4] at this
theorem RdS_lit (w : World) (l : List UInt8) (cs : List Value) (hcs : cs = l.map vB) : RdS vB (w.alloc (.cells cs.toArray 5)) (some ⟨w.heap.size, 0, none⟩) l :=
  RdS.blk (heap_alloc_new _ _) 0 l (fun k hk => by rw [hcs]; simp [hk])
theorem le4_len (x : UInt32) : (le4 x).length = 4 := rfl
set_option maxRecDepth 20000 in
set_option maxHeartbeats 2000000 in
theorem first_c (h : Hd) (w : World) (hok : h.Ok) : Calls Try.prog 73 #[h.val] w fun e w' => ∃ v, e = .returned v ∧ OwnS vB 5 w' w.heap.size v h.firstB ∧ Ext w w' := by
  obtain ⟨s0, s1, s2, s3, s4, s5, s6, s7, k, m, b, key, size, index, epoch, count⟩ := h
  obtain ⟨hsh, k1, k2, hz, hst, hix, he1, he2, hc1, hc2⟩ := hok
  simp only at hsh k1 k2 hz hix he1 he2 hc1 hc2
  obtain ⟨m1, m2, kk, km, b1, b2⟩ := hsh
  unfold Hd.val Hd.cells
  go_enter Try.func73, Try.ntmps73
  go_wp2_with (first | (go_at_call 90; with_reducible refine (mark_c _).mono ?_; rintro e w1 ⟨rfl, hE1⟩) | (refine wpList_store_blk rfl rfl 146 (.tmp 3) (.tmp 5) rfl _ _ rfl rfl _ _ (heap_alloc_new _ _) (by kernel_rfl) rfl rfl ?_; intro w2 hb2 hg2))
  generalize hw : World.alloc w1 _ = w2
  have hbm := heap_alloc_new w1 (Obj.cells #[.int .u8 67, .int .u8 82, .int .u8 78, .int .u8 2] 146)
  rw [hw] at hbm
  have hE2 := hE1.al (Obj.cells #[.int .u8 67, .int .u8 82, .int .u8 78, .int .u8 2] 146)
  rw [hw] at hE2
  obtain ⟨bx, hbxd⟩ : ∃ bx, bx = Obj.cells #[.int .u8 (b8 s0), .int .u8 (b8 s1), .int .u8 (b8 s2), .int .u8 (b8 s3), .int .u8 (b8 s4), .int .u8 (b8 s5), .int .u8 (b8 s6), .int .u8 (b8 s7), .int .i64 (k : Int), .int .i64 (m : Int), .int .i64 (b : Int), .string key, .int .i64 (size : Int), .int .i64 (index : Int), .int .i64 (epoch : Int), .int .i64 (count : Int)] 94 := ⟨_, rfl⟩
  rw [← hbxd] at hE2
  obtain ⟨W0, hW0⟩ : ∃ W0, W0 = w.alloc bx := ⟨_, rfl⟩
  rw [← hW0] at hE2
  have hbx := heap_alloc_new w bx
  rw [← hW0, hbxd] at hbx
  have h00 : Ext w W0 := by rw [hW0]; exact (Ext.refl w).al _
  have hs0 : w.heap.size < W0.heap.size := blk_lt hbx
  have HE0 := Lib.hid h00; clear h00 hW0 hw hE1 hbxd
  have HBX := Lib.hid hbx; clear hbx
  have hrm : RdS vB w2 (some ⟨w1.heap.size, 0, none⟩) [67, 82, 78, 2] := RdS.blk hbm 0 _ (fun k hk => by
    match k, hk with
    | 0, _ => rfl
    | 1, _ => rfl
    | 2, _ => rfl
    | 3, _ => rfl)
  have hrs : RdS vB w2 (some ⟨w.heap.size, 0, none⟩) [s0, s1, s2, s3, s4, s5, s6, s7] := RdS.blk (hE2.heap HBX.out) 0 _ (fun k hk => by
    match k, hk with
    | 0, _ => rfl
    | 1, _ => rfl
    | 2, _ => rfl
    | 3, _ => rfl
    | 4, _ => rfl
    | 5, _ => rfl
    | 6, _ => rfl
    | 7, _ => rfl)
  have HM := Lib.hid hrm; clear hrm
  have HS := Lib.hid hrs; clear hrs
  have HE2 := Lib.hid hE2; clear hE2
  clear hbm
  go_still_tail 3, (by kernel_rfl)
  change wpList _ _ _ _ _ w2.drew
  refine wpList_append_grow_S (enc := vB) (fun _ _ => rfl) rfl (.tmp 6) (.tmp 8) 22 5 _ 1 rfl Try.underlying22 info8 rfl (n := 4) (c := 4) rfl rfl HM.out (n' := 8) (c' := 8) rfl rfl HS.out (by simp) (by simp) (by simp) (by simp [maxLen]) (by simp) ?_
  intro v3 w3 ho3 hE3
  have HE3 := Lib.hid (Ext.tr (HE2.out.dr) hE3)
  have HO3 := Lib.hid (ho3.lower (b := W0.heap.size) HE2.out.size)
  clear ho3 hE3 HM HS
  have hc3 := fun i => blk_cell (HE3.out.heap HBX.out) i
  have hk8 : (.int .u8 (k : Int) : Value) = vB (UInt8.ofNat k) := by unfold vB; rw [u8_nat k (by omega)]
  have hm8 : (.int .u8 (m : Int) : Value) = vB (UInt8.ofNat m) := by unfold vB; rw [u8_nat m (by omega)]
  have hi8 : (.int .u8 (index : Int) : Value) = vB (UInt8.ofNat index) := by unfold vB; rw [u8_nat index (by omega)]
  have hl8 : (.int .u8 (key.size : Int) : Value) = vB (UInt8.ofNat key.size) := by unfold vB; rw [u8_nat key.size (by omega)]
  have HK := Lib.hid hk8; clear hk8
  have HMM := Lib.hid hm8; clear hm8
  have HI := Lib.hid hi8; clear hi8
  have HL := Lib.hid hl8; clear hl8
  go_wp2_with (first | (refine wpList_append_S (enc := vB) (ys := [UInt8.ofNat k, UInt8.ofNat m]) (fun _ _ => rfl) rfl (.tmp 10) (.tmp 19) 22 5 _ 1 W0.heap.size rfl Try.underlying22 info8 rfl (v := v3) rfl (HO3.out.ext ((Ext.refl _).al _)) rfl rfl (RdS_lit w3 _ [.int .u8 (k : Int), .int .u8 (m : Int)] (by simp [HK.out, HMM.out])) (by simp [maxLen]) (by simp) (by simp; exact Nat.le_succ_of_le HE3.out.size) ?_; intro v4 w4 ho4 hg4 _; have HO4 := Lib.hid ho4; have HE4 := Lib.hid ((HE3.out.al _).gr hg4 HO3.out.ge); clear hg4 ho4 hc3; have hc4 := fun i => blk_cell (HE4.out.heap HBX.out) i) | (go_at_call 75; with_reducible refine (put32n_c b _ _ _ (by omega) HO4.out.sl (by simp)).mono ?_; rintro e w5 ⟨v5, rfl, ho5, hE5⟩; have HO5 := Lib.hid (ho5.lower (b := W0.heap.size) HE4.out.size); have HE5 := Lib.hid (HE4.out.tr hE5); clear ho5 hE5 hc4; have hc5 := fun i => blk_cell (HE5.out.heap HBX.out) i) | (go_at_call 75; with_reducible refine (put32n_c size _ _ _ (by omega) HO5.out.sl (by simp [le4_len])).mono ?_; rintro e w6 ⟨v6, rfl, ho6, hE6⟩; have HO6 := Lib.hid (ho6.lower (b := W0.heap.size) HE5.out.size); have HE6 := Lib.hid (HE5.out.tr hE6); clear ho6 hE6 hc5; have hc6 := fun i => blk_cell (HE6.out.heap HBX.out) i) | (refine wpList_append_S (enc := vB) (ys := [UInt8.ofNat index]) (fun _ _ => rfl) rfl (.tmp 32) (.tmp 36) 22 5 _ 1 W0.heap.size rfl Try.underlying22 info8 rfl (v := v6) rfl (HO6.out.ext ((Ext.refl _).al _)) rfl rfl (RdS_lit w6 _ [.int .u8 (index : Int)] (by simp [HI.out])) (by simp [maxLen, le4_len]) (by simp [le4_len]) (by simp; exact Nat.le_succ_of_le HE6.out.size) ?_; intro v7 w7 ho7 hg7 _; have HO7 := Lib.hid ho7; have HE7 := Lib.hid ((HE6.out.al _).gr hg7 HO6.out.ge); clear hg7 ho7 hc6; have hc7 := fun i => blk_cell (HE7.out.heap HBX.out) i) | (go_at_call 75; with_reducible refine (put32n_c epoch _ _ _ (by omega) HO7.out.sl (by simp [le4_len])).mono ?_; rintro e w8 ⟨v8, rfl, ho8, hE8⟩; have HO8 := Lib.hid (ho8.lower (b := W0.heap.size) HE7.out.size); have HE8 := Lib.hid (HE7.out.tr hE8); clear ho8 hE8 hc7; have hc8 := fun i => blk_cell (HE8.out.heap HBX.out) i) | (go_at_call 75; with_reducible refine (put32n_c count _ _ _ (by omega) HO8.out.sl (by simp [le4_len])).mono ?_; rintro e w9 ⟨v9, rfl, ho9, hE9⟩; have HO9 := Lib.hid (ho9.lower (b := W0.heap.size) HE8.out.size); have HE9 := Lib.hid (HE8.out.tr hE9); clear ho9 hE9 hc8; have hc9 := fun i => blk_cell (HE9.out.heap HBX.out) i) | (refine wpList_append_S (enc := vB) (ys := [UInt8.ofNat key.size]) (fun _ _ => rfl) rfl (.tmp 50) (.tmp 55) 22 5 _ 1 W0.heap.size rfl Try.underlying22 info8 rfl (v := v9) rfl (HO9.out.ext ((Ext.refl _).al _)) rfl rfl (RdS_lit w9 _ [.int .u8 (key.size : Int)] (by simp [HL.out])) (by simp [maxLen, le4_len]) (by simp [le4_len]) (by simp; exact Nat.le_succ_of_le HE9.out.size) ?_; intro v10 w10 ho10 hg10 _; have HO10 := Lib.hid ho10; have HE10 := Lib.hid ((HE9.out.al _).gr hg10 HO9.out.ge); clear hg10 ho10 hc9))
  go_ret
  exact ⟨_, rfl, HO10.out.lower (Nat.le_of_lt hs0), HE0.out.tr HE10.out⟩
end Go.Proofs.Ytmcgcfbdofpfdaa
