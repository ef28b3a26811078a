/- The walks of the frame's looks at a head, and of the blocks' lengths. -/
import Derived.Test.YtmcgcfbdofpfdaaCodecD
namespace Go.Proofs.Ytmcgcfbdofpfdaa
open Go.RowKit
/-- A head, its fields. -/
structure Hd where
  s0 : UInt8
  s1 : UInt8
  s2 : UInt8
  s3 : UInt8
  s4 : UInt8
  s5 : UInt8
  s6 : UInt8
  s7 : UInt8
  k : Nat
  m : Nat
  b : Nat
  key : ByteArray
  size : Nat
  index : Nat
  epoch : Nat
  count : Nat
def shV (k m b : Nat) : Value := .agg #[.int .i64 (k : Int), .int .i64 (m : Int), .int .i64 (b : Int)]
def Hd.cells (h : Hd) : List Value := [.int .u8 (b8 h.s0), .int .u8 (b8 h.s1), .int .u8 (b8 h.s2), .int .u8 (b8 h.s3), .int .u8 (b8 h.s4), .int .u8 (b8 h.s5), .int .u8 (b8 h.s6), .int .u8 (b8 h.s7),
  .int .i64 (h.k : Int), .int .i64 (h.m : Int), .int .i64 (h.b : Int), .string h.key, .int .i64 (h.size : Int), .int .i64 (h.index : Int), .int .i64 (h.epoch : Int), .int .i64 (h.count : Int)]
def Hd.val (h : Hd) : Value := .agg h.cells.toArray
structure ShOk (k m b : Nat) : Prop where
  m1 : 1 ≤ m
  m2 : m ≤ k
  k2 : k ≤ 255
  km : k + m ≤ 255
  b1 : 1 ≤ b
  b2 : b ≤ 65536
/-- How many stripes an object of that many bytes has. -/
def stripes (k b size : Nat) : Nat := (size + k * b - 1) / (k * b)
structure Hd.Ok (h : Hd) : Prop where
  sh : ShOk h.k h.m h.b
  key1 : 1 ≤ h.key.size
  key2 : h.key.size ≤ 255
  sz : h.size ≤ 1048576
  st : stripes h.k h.b h.size ≤ 4096
  ix : h.index < h.k + h.m
  e1 : 1 ≤ h.epoch
  e2 : h.epoch ≤ 4294967295
  c1 : 1 ≤ h.count
  c2 : h.count ≤ 4294967295
set_option maxRecDepth 20000 in
theorem may_c (k m b : Nat) (w : World) (h : ShOk k m b) : Calls Try.prog 84 #[shV k m b] w fun e w' => e = .returned (.bool true) ∧ Ext w w' := by
  obtain ⟨h1, h2, h3, h4, h5, h6⟩ := h
  have d1 : decide ((1 : Int) ≤ (m : Int)) = true := by simp; omega
  have d2 : decide ((m : Int) ≤ (k : Int)) = true := by simp; omega
  have d2' : decide (m ≤ k) = true := by simp; omega
  have d3 : decide ((k : Int) ≤ 255) = true := by simp; omega
  have d4 : decide ((k : Int) + (m : Int) ≤ 255) = true := by simp; omega
  have d5 : decide ((1 : Int) ≤ (b : Int)) = true := by simp; omega
  have d6 : decide ((b : Int) ≤ 65536) = true := by simp; omega
  unfold shV
  go_enter Try.func84, Try.ntmps84
  go_wp2
  go_ret
  exact ⟨rfl, (Ext.refl w).al _⟩
set_option maxRecDepth 20000 in
theorem fits_c (k m b size : Nat) (w : World) (h : ShOk k m b) (hs : size ≤ 1048576) (hst : stripes k b size ≤ 4096) : Calls Try.prog 85 #[shV k m b, .int .i64 (size : Int)] w fun e w' => e = .returned (.int .i64 0) ∧ Ext w w' := by
  obtain ⟨h1, h2, h3, h4, h5, h6⟩ := h
  have hp : k * b ≤ 255 * 65536 := Nat.mul_le_mul h3 h6
  have hp1 : 1 ≤ k * b := Nat.mul_le_mul (show 1 ≤ k by omega) h5
  obtain ⟨q, hq⟩ : ∃ q, q = k * b := ⟨_, rfl⟩
  have hq2 : (k : Int) * (b : Int) = (q : Int) := by rw [hq]; simp
  unfold stripes at hst
  rw [← hq] at hp hp1 hst
  have hd : ((size : Int) + (q : Int) - 1) / (q : Int) = ((size + q - 1) / q : Nat) := by
    rw [Int.natCast_ediv]; congr 1; omega
  have d1 : decide ((1048576 : Int) < (size : Int)) = false := by simp; omega
  have d2 : decide ((4096 : Int) < ((size : Int) + (q : Int) - 1) / (q : Int)) = false := by rw [hd]; simp; omega
  have d3 : decide ((size : Int) < 0) = false := by simp
  have HQ := Lib.hid hq; clear hq hd
  unfold shV
  go_enter Try.func85, Try.ntmps85
  go_wp2
  go_ret
  exact ⟨rfl, (Ext.refl w).al _⟩
def vN (n : Nat) : Value := .int .i64 (n : Int)
theorem infoI : (Try.prog.info? 3).map (fun i => (i.zero, i.size, i.bytes)) = some (some (vN 0), 1, 8) := by kernel_rfl
/-- The blocks' lengths. -/
def lensL (k b size : Nat) : List Nat :=
  if 0 < size % (k * b) then (List.replicate (stripes k b size) b).set (stripes k b size - 1) ((size % (k * b) + k - 1) / k) else List.replicate (stripes k b size) b
theorem lensL_length (k b size : Nat) : (lensL k b size).length = stripes k b size := by unfold lensL; split <;> simp
theorem stripes_pos (k b size : Nat) (hk : 1 ≤ k) (hb : 1 ≤ b) (h : 0 < size % (k * b)) : 1 ≤ stripes k b size := by
  unfold stripes
  have hp1 : 1 ≤ k * b := Nat.mul_le_mul hk hb
  have : 0 < size := by
    rcases Nat.eq_zero_or_pos size with e | e
    · subst e; simp at h
    · exact e
  exact Nat.div_pos (by omega) (by omega)
set_option maxRecDepth 20000 in
theorem lengths_c (k m b size : Nat) (w : World) (hk : 1 ≤ k) (hk2 : k ≤ 255) (hb : 1 ≤ b) (hb2 : b ≤ 65536) (hs : size ≤ 1048576) :
    Calls Try.prog 72 #[shV k m b, .int .i64 (size : Int)] w fun e w' => ∃ v, e = .returned v ∧ OwnS vN 3 w' w.heap.size v (lensL k b size) ∧ Ext w w' := by
  have hp : k * b ≤ 255 * 65536 := Nat.mul_le_mul hk2 hb2
  have hp1 : 1 ≤ k * b := Nat.mul_le_mul hk hb
  obtain ⟨q, hq⟩ : ∃ q, q = k * b := ⟨_, rfl⟩
  obtain ⟨n, hn⟩ : ∃ n, n = stripes k b size := ⟨_, rfl⟩
  obtain ⟨l0, hl0⟩ : ∃ l, l = List.replicate n b := ⟨_, rfl⟩
  have hl0l : l0.length = n := by rw [hl0]; simp
  have hq2 : (k : Int) * (b : Int) = (q : Int) := by rw [hq]; simp
  have hpos := stripes_pos k b size hk hb
  have hfin : lensL k b size = if 0 < size % q then l0.set (n - 1) ((size % q + k - 1) / k) else l0 := by rw [lensL, hl0, hn, hq]
  rw [← hq] at hp hp1 hpos
  rw [← hn] at hpos
  have hd : ((size : Int) + (q : Int) - 1) / (q : Int) = (n : Int) := by
    rw [hn, stripes, ← hq, Int.natCast_ediv]; congr 1; omega
  have hnb : n ≤ 20000000 := by
    rw [hn, stripes, ← hq]
    exact Nat.le_trans (Nat.div_le_self _ _) (by omega)
  have HQ := Lib.hid hq; clear hq
  have HNN := Lib.hid hn; clear hn
  have HL0 := Lib.hid hl0; clear hl0
  have HL := Lib.hid hl0l; clear hl0l
  have HP := Lib.hid hpos; clear hpos
  have HF := Lib.hid hfin; clear hfin
  unfold shV
  go_enter Try.func72, Try.ntmps72
  go_wp2_with (refine wpList_make_S (enc := vN) 0 rfl rfl (.tmp 19) (.tmp 19) 102 3 8 (w.heap.size + 1) rfl Try.underlying102 infoI n rfl rfl hd hd (by omega) (by unfold maxLen; omega) (by simp) ?_; intro w1 ho hE)
  have HE := Lib.hid hE; clear hE
  clear hd hq2
  go_loopw [23] (fun i wr => ∃ j : Nat, j ≤ n ∧ i = .int .i64 j ∧ Hid (OwnS vN 3 wr (w.heap.size + 1) (.slice (some ⟨w.heap.size + 1, 0, none⟩) n n) (fillTo l0 0 j)) ∧ Hid (wr.heap[w.heap.size]? = some (.cells #[.int .i64 (k : Int), .int .i64 (m : Int), .int .i64 (b : Int)] 89 (0, 0))) ∧ Hid (Ext w wr)) (fun i _ => n - (intOf i).toNat)
  case atStart => exact ⟨0, by omega, rfl, by rw [fillTo_zero, HL.out]; simpa using Lib.hid ho, Lib.hid (HE.out.heap (heap_alloc_new _ _)), Lib.hid (((Ext.refl w).al _).tr HE.out)⟩
  case round =>
    clear ho HE
    obtain ⟨j, hj, rfl, HO, HS, HE⟩ := hrel
    have cK := blk_cell HS.out 0
    have cB := blk_cell HS.out 2
    have cK' : wr.cell? ⟨w.heap.size, 0, none⟩ = some (.int .i64 (k : Int)) := cK
    have cB' : wr.cell? ⟨w.heap.size, 2, none⟩ = some (.int .i64 (b : Int)) := cB
    clear cK cB
    by_cases hlt : j < n
    · obtain ⟨g, hg, hg1, hg2, hc3, hf3, hs3⟩ := HO.out.at_ (k := j) (by rw [fillTo_length, HL.out]; exact hlt)
      injection hg with hg
      injection hg with hg
      subst hg
      unfold vN at hc3
      have hs4 := hs3 b
      have HS4 := Lib.hid hs4; clear hs3 hs4
      go_wp2
      have hw : (wr.setCell ⟨w.heap.size + 1, j, none⟩ (vN b)).heap[w.heap.size]? = wr.heap[w.heap.size]? := Below.heap_setCell _ _ _ _ (by simp)
      refine ⟨⟨j + 1, by omega, by go_num, ?_, Lib.hid (hw.trans HS.out), Lib.hid (HE.out.set (by simp) _)⟩, by simp [intOf]; omega⟩
      have hb' : l0[j]'(by rw [HL.out]; exact hlt) = b := by simp only [HL0.out, List.getElem_replicate]
      have h := HS4.out
      rw [show (fillTo l0 0 j).set j b = fillTo l0 0 (j + 1) from by rw [← fillTo_set l0 0 j (by rw [HL.out]; exact hlt), hb']] at h
      exact Lib.hid h
    · obtain rfl : j = n := by omega
      have hall : fillTo l0 0 j = l0 := by rw [← HL.out, fillTo_all]
      rw [hall] at HO
      by_cases hr : 0 < size % q
      · have hp := HP.out hr
        have hfin := HF.out
        rw [if_pos hr] at hfin
        have e0 : ((size : Int) % (q : Int)) = ((size % q : Nat) : Int) := by simp
        have hq4 : size % q < q := Nat.mod_lt _ (by omega)
        generalize hrq : size % q = r at *
        have e1 : decide ((0 : Int) < (r : Int)) = true := by simp; omega
        obtain ⟨g, hg, hg1, hg2, hc3, hf3, hs3⟩ := HO.out.at_ (k := j - 1) (by rw [HL.out]; omega)
        injection hg with hg
        injection hg with hg
        subst hg
        unfold vN at hc3
        have hs4 := hs3 ((r + k - 1) / k)
        have HS4 := Lib.hid hs4; clear hs3 hs4
        have HF2 := Lib.hid hfin; clear hfin hall
        have e2 : ((r : Int) + (k : Int) - 1) / (k : Int) = (((r + k - 1) / k : Nat) : Int) := by rw [Int.natCast_ediv]; congr 1; omega
        have e3 : ((j : Int) - 1).toNat = j - 1 := by omega
        have HR := Lib.hid hrq; clear hrq e1
        go_wp2
        go_ret
        refine ⟨_, rfl, ?_, HE.out.set (by simp) _⟩
        have h := HS4.out
        rw [HF2.out]
        exact h.lower (by omega)
      · have hfin := HF.out
        rw [if_neg hr] at hfin
        have e0 : ((size : Int) % (q : Int)) = ((size % q : Nat) : Int) := by simp
        generalize hrq : size % q = r at *
        have HR := Lib.hid hrq; clear hrq
        have HF2 := Lib.hid hfin; clear hfin hall
        go_wp2
        go_ret
        refine ⟨_, rfl, ?_, HE.out⟩
        have h := HO.out
        rw [HF2.out]
        exact h.lower (by omega)
end Go.Proofs.Ytmcgcfbdofpfdaa
