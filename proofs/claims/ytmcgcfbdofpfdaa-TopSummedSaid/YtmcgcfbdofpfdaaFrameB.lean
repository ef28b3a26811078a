/- The walks of the frame's Check, Sizes and length. -/
import Derived.Test.YtmcgcfbdofpfdaaFrameA
namespace Go.Proofs.Ytmcgcfbdofpfdaa
open Go.RowKit
set_option maxRecDepth 20000 in
theorem sizes_c (k m b size : Nat) (w : World) (h : ShOk k m b) (hs : size ≤ 1048576) (hst : stripes k b size ≤ 4096) :
    Calls Try.prog 69 #[shV k m b, .int .i64 (size : Int)] w fun e w' => ∃ v, e = .returned (.tuple #[v, .int .i64 0]) ∧ OwnS vN 3 w' w.heap.size v (lensL k b size) ∧ Ext w w' := by
  have H := Lib.hid h; clear h
  go_enter Try.func69, Try.ntmps69
  unfold shV
  go_wp2_with (first | (go_at_call 84; refine (may_c k m b _ H.out).mono ?_; rintro e w1 ⟨rfl, hE⟩; have hb1 := hE.heap (heap_alloc_new w _); have hc1 := fun i => blk_cell hb1 i) | (go_at_call 85; refine (fits_c k m b size _ H.out hs hst).mono ?_; rintro e w2 ⟨rfl, hE2⟩; have hb2 := hE2.heap hb1; have hc2 := fun i => blk_cell hb2 i) | (go_at_call 72; refine (lengths_c k m b size _ (Nat.le_trans H.out.m1 H.out.m2) H.out.k2 H.out.b1 H.out.b2 hs).mono ?_; rintro e w3 ⟨v, rfl, ho, hE3⟩))
  go_ret2
  have hE' := ((Ext.refl w).al _).tr (hE.tr hE2)
  exact ⟨_, rfl, ho.lower hE'.size, hE'.tr hE3⟩
set_option maxRecDepth 20000 in
set_option maxHeartbeats 1000000 in
theorem check_c (h : Hd) (w : World) (hok : h.Ok) : Calls Try.prog 67 #[h.val] w fun e w' => e = .returned (.int .i64 0) ∧ Ext w w' := by
  obtain ⟨s0, s1, s2, s3, s4, s5, s6, s7, k, m, b, key, size, index, epoch, count⟩ := h
  obtain ⟨hsh, k1, k2, hz, hst, hix, he1, he2, hc1, hc2⟩ := hok
  simp only at hsh k1 k2 hz hst hix he1 he2 hc1 hc2
  have H := Lib.hid hsh; clear hsh
  have h1 := H.out.k2
  have h2 := H.out.km
  have d1 : ((key.size : Int) == 0) = false := by rw [beq_eq_false_iff_ne]; omega
  have d1' : (key.size == 0) = false := by rw [beq_eq_false_iff_ne]; omega
  have d2 : decide ((255 : Int) < (key.size : Int)) = false := by simp; omega
  have d3 : decide ((index : Int) < 0) = false := by simp
  have d4 : decide ((k : Int) + (m : Int) ≤ (index : Int)) = false := by simp; omega
  have d5 : decide ((epoch : Int) < 1) = false := by simp; omega
  have d6 : decide ((4294967295 : Int) < (epoch : Int)) = false := by simp; omega
  have d7 : decide ((count : Int) < 1) = false := by simp; omega
  have d8 : decide ((4294967295 : Int) < (count : Int)) = false := by simp; omega
  unfold Hd.val Hd.cells
  go_enter Try.func67, Try.ntmps67
  go_wp2_with (first | (go_at_call 84; refine (may_c k m b _ H.out).mono ?_; rintro e w1 ⟨rfl, hE⟩; have hb1 := hE.heap (heap_alloc_new w _); have hcc1 := fun i => blk_cell hb1 i) | (go_at_call 85; refine (fits_c k m b size _ H.out hz hst).mono ?_; rintro e w2 ⟨rfl, hE2⟩; have hb2 := hE2.heap hb1; have hcc2 := fun i => blk_cell hb2 i))
  go_ret
  exact ⟨rfl, ((Ext.refl w).al _).tr (hE.tr hE2)⟩
/-- How many bytes the form of a head's shard has. -/
def sumLens (l : List Nat) : Nat := l.foldl (fun a n => a + (n + 4)) 0
def Hd.len (h : Hd) : Nat := 40 + h.key.size + sumLens (lensL h.k h.b h.size)
theorem foldl_add (l : List Nat) (a : Nat) : l.foldl (fun a n => a + (n + 4)) a = a + sumLens l := by
  unfold sumLens
  induction l generalizing a with
  | nil => simp
  | cons x l ih => simp only [List.foldl_cons]; rw [ih, ih (0 + (x + 4))]; omega
theorem sumLens_take (l : List Nat) (j : Nat) (h : j < l.length) : sumLens (l.take (j + 1)) = sumLens (l.take j) + (l[j] + 4) := by
  rw [List.take_succ_eq_append_getElem h]
  unfold sumLens
  rw [List.foldl_append]; rfl
theorem lensL_le (k b size : Nat) (hk : 1 ≤ k) (hb : 1 ≤ b) : ∀ x ∈ lensL k b size, x ≤ b := by
  have hp1 : 1 ≤ k * b := Nat.mul_le_mul hk hb
  have hr : ∀ x ∈ List.replicate (stripes k b size) b, x ≤ b := by
    intro x hx
    rw [List.mem_replicate] at hx
    omega
  intro x hx
  unfold lensL at hx
  split at hx
  · rcases List.mem_or_eq_of_mem_set hx with h | h
    · exact hr x h
    · subst h
      refine Nat.le_of_lt_succ (Nat.div_lt_of_lt_mul ?_)
      have : size % (k * b) < k * b := Nat.mod_lt _ (by omega)
      have e : k * (b + 1) = k * b + k := Nat.mul_succ k b
      show size % (k * b) + k - 1 < k * (b + 1)
      omega
  · exact hr x hx
theorem sumLens_le (l : List Nat) (b : Nat) (h : ∀ x ∈ l, x ≤ b) : sumLens l ≤ l.length * (b + 4) := by
  induction l with
  | nil => simp [sumLens]
  | cons x l ih =>
    have e : sumLens (x :: l) = (x + 4) + sumLens l := by
      show (x :: l).foldl _ 0 = _
      rw [List.foldl_cons, foldl_add]; omega
    rw [e, List.length_cons, Nat.succ_mul]
    have h1 := h x (by simp)
    have h2 := ih (fun y hy => h y (by simp [hy]))
    omega
set_option maxRecDepth 20000 in
set_option maxHeartbeats 1000000 in
theorem length_c (h : Hd) (w : World) (hok : h.Ok) : Calls Try.prog 74 #[h.val] w fun e w' => e = .returned (.int .i64 (h.len : Int)) ∧ Ext w w' := by
  have hlen : Hid (h.len = 40 + h.key.size + sumLens (lensL h.k h.b h.size)) := Lib.hid rfl
  obtain ⟨s0, s1, s2, s3, s4, s5, s6, s7, k, m, b, key, size, index, epoch, count⟩ := h
  obtain ⟨hsh, k1, k2, hz, hst, hix, he1, he2, hc1, hc2⟩ := hok
  simp only at hsh k1 k2 hz hst hlen
  clear hix he1 he2 hc1 hc2
  have H := Lib.hid hsh; clear hsh
  have hle := lensL_le k b size (Nat.le_trans H.out.m1 H.out.m2) H.out.b1
  have hll := lensL_length k b size
  obtain ⟨l, hl⟩ : ∃ l, l = lensL k b size := ⟨_, rfl⟩
  rw [← hl] at hle hll
  have hln : l.length ≤ 4096 := by rw [hll]; exact hst
  have hbb : ∀ x ∈ l, x ≤ 65536 := fun x hx => Nat.le_trans (hle x hx) H.out.b2
  have hsum : ∀ j, j ≤ l.length → sumLens (l.take j) ≤ 300000000 := fun j hj => by
    have h1 := sumLens_le (l.take j) 65536 (fun x hx => hbb x (List.mem_of_mem_take hx))
    have h2 : (l.take j).length ≤ 4096 := by simp; omega
    have h3 : (l.take j).length * 65540 ≤ 4096 * 65540 := Nat.mul_le_mul_right _ h2
    omega
  have HL := Lib.hid hl; clear hl
  have HS := Lib.hid hsum; clear hsum
  have HB := Lib.hid hbb; clear hbb
  clear hll hle hst
  unfold Hd.val Hd.cells
  go_enter Try.func74, Try.ntmps74
  go_wp2_with (first | (go_at_call 72; refine (lengths_c k m b size _ (Nat.le_trans H.out.m1 H.out.m2) H.out.k2 H.out.b1 H.out.b2 hz).mono ?_; rintro e w1 ⟨v, rfl, ho, hE⟩; rw [← HL.out] at ho; obtain ⟨A, c, rfl, hlc, hcm, hr⟩ := ho.form))
  have HE := Lib.hid (((Ext.refl w).al _).tr hE); clear hE ho
  have HR := Lib.hid hr; clear hr
  unfold maxLen at hcm
  go_loop [3, 17] (fun s i => ∃ j t : Nat, j ≤ l.length ∧ i = .int .i64 j ∧ s = .int .i64 (t : Int) ∧ t ≤ 400000000 ∧ Hid (t = 40 + key.size + sumLens (l.take j))) (fun _ i => l.length - (intOf i).toNat)
  case atStart => exact ⟨0, 40 + key.size, by omega, rfl, by go_num, by omega, Lib.hid rfl⟩
  case round =>
    obtain ⟨j, t, hj, rfl, rfl, ht, HT⟩ := hrel
    by_cases hlt : j < l.length
    · obtain ⟨b1, o, rfl, hbl, hcell⟩ := HR.out.at_ hlt
      have hx := HB.out l[j] (List.getElem_mem hlt)
      have hs2 := HS.out (j + 1) hlt
      rw [sumLens_take l j hlt] at hs2
      have hht := HT.out
      unfold vN at hcell
      generalize hxx : l[j] = x at *
      have HX := Lib.hid hxx; clear hxx
      go_wp2
      refine ⟨⟨j + 1, t + (x + 4), by omega, by go_num, by go_num, by omega, ?_⟩, by simp [intOf]; omega⟩
      refine Lib.hid ?_
      rw [sumLens_take l j hlt, HX.out]; omega
    · obtain rfl : j = l.length := by omega
      go_wp2
      go_ret
      refine ⟨ret_int ?_, HE.out⟩
      rw [hlen.out, ← HL.out, HT.out, List.take_length]
end Go.Proofs.Ytmcgcfbdofpfdaa
