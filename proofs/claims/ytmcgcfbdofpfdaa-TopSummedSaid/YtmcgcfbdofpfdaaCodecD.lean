/- The walks of the codec's reading of one byte, and of bytes. -/
import Derived.Test.YtmcgcfbdofpfdaaCodecC
namespace Go.Proofs.Ytmcgcfbdofpfdaa
open Go.RowKit
def num1 (l : List UInt8) : UInt8 := UInt8.ofNat (accN l 1)
theorem acc_u8 (l : List UInt8) : IntKind.u8.wrap (accI l 1) = b8 (num1 l) := by
  have h := accN_lt l 1
  rw [IntKind.wrap_u8]
  unfold accI num1 b8
  rw [UInt8.toNat_ofNat']
  omega
attribute [local go_sem ↓] s_shl64
attribute [local go_sem] b8_u64
set_option maxRecDepth 8000 in
theorem take8in_c (g1 g3 g : Nat) (v : Value) (bs : List UInt8) (k : Nat) (z : Value) (w : World) (h : ReaderAt w g v bs k) (hk : k + 1 ≤ bs.length)
    (h1 : w.heap[g1]? = some (.cells #[.pointer (some ⟨g, 0, none⟩)] 149 (0, 0))) (h3 : w.heap[g3]? = some (.cells #[z] 5 (0, 0))) (hv3 : v.ownBlock ≠ some g3) :
    Calls Try.prog 102 #[.pointer (some ⟨g1, 0, none⟩), .pointer (some ⟨g3, 0, none⟩)] w fun e w' => e = .returned (.tuple #[]) ∧ ReaderAt w' g v bs (k + 1) ∧
      w'.heap[g3]? = some (.cells #[.int .u8 (b8 (num1 ((bs.drop k).take 1)))] 5 (0, 0)) ∧ Chg [g, g3] w w' := by
  have c1 : w.cell? ⟨g1, 0, none⟩ = some (.pointer (some ⟨g, 0, none⟩)) := blk_cell h1 0
  have hne : some g1 ≠ some g := by
    rintro e
    injection e with e
    subst e
    obtain ⟨hb, _⟩ := h
    rw [h1] at hb
    injection hb with hb
    injection hb with _ ht
    exact absurd ht (by decide)
  have hw := fun W => width8_c W
  have HW := Lib.hid hw; clear hw
  have HV3 := Lib.hid hv3; clear hv3
  have hne3 : some g3 ≠ some g := by
    rintro e
    injection e with e
    subst e
    obtain ⟨hb, _⟩ := h
    rw [h3] at hb
    injection hb with hb
    injection hb with _ ht
    exact absurd ht (by decide)
  have HN := Lib.hid hne; clear hne
  have HN3 := Lib.hid hne3; clear hne3
  have H := Lib.hid h; clear h
  have H1 := Lib.hid h1; clear h1
  have H3 := Lib.hid h3; clear h3
  obtain ⟨l, hl'⟩ : ∃ l, l = (bs.drop k).take 1 := ⟨_, rfl⟩
  have hll : l.length = 1 := by rw [hl']; simp; omega
  have ht : ∀ W, ReaderAt W g v bs k → Calls Try.prog 101 #[.pointer (some ⟨g, 0, none⟩), .int .u64 1] W fun e w' => ∃ A' c', e = .returned (.slice A' 1 c') ∧ RdS vB w' A' l ∧ ReaderAt w' g v bs (k + 1) ∧ W.grownBy w' (some g) := fun W h => (take_c g v bs k 1 W h hk).mono fun e w' ⟨v', he, ⟨A', c', hv, _, _, hr⟩, h2, h3⟩ => ⟨A', c', by rw [he, hv, ← hl', hll], by rw [hl']; exact hr, h2, h3⟩
  have HT := Lib.hid ht; clear ht
  have HL := Lib.hid hl'; clear hl'
  have HLL := Lib.hid hll; clear hll
  have q1 : IntKind.u64.wrap 1 = 1 := by decide
  go_enter Try.func102, Try.ntmps102
  go_wp2_with fail
  go_region_held3 (fun w' => w'.cell? ⟨g1, 0, none⟩ = some (.pointer (some ⟨g, 0, none⟩))) (first | exact c1 | assumption) (first | (go_at_call 103; refine (HW.out _).mono ?_; rintro e w' ⟨rfl, rfl⟩) | (go_at_call 101; refine (HT.out _ (by exact H.out)).mono ?_; rintro e w1 ⟨A', c', rfl, hl3, hR, hg⟩; have hk1 : w1.cell? ⟨g1, 0, none⟩ = some (.pointer (some ⟨g, 0, none⟩)) := (World.cell?_of_block (a := ⟨g1, 0, none⟩) (hg.block g1 (blk_lt H1.out) HN.out)).trans c1))
  rename_i hH
  clear hH hk1 c1 q1
  have H3' := Lib.hid ((hg.block g3 (blk_lt H3.out) HN3.out).trans H3.out)
  have HR := Lib.hid hl3; clear hl3
  have HG := Lib.hid hg; clear hg
  go_wp2
  go_loop [2, 10] (fun u i => ∃ j : Nat, j ≤ 1 ∧ i = .int .i64 j ∧ u = .int .u64 (accI l j)) (fun _ i => 1 - (intOf i).toNat)
  case atStart => exact ⟨0, by omega, rfl, rfl⟩
  case round =>
    obtain ⟨j, hj, rfl, rfl⟩ := hrel
    by_cases hlt : j < 1
    · obtain ⟨b, o, rfl, hbl, hcell⟩ := HR.out.at_ (k := j) (by rw [HLL.out]; exact hlt)
      unfold vB at hcell
      have hor := acc_or l j (by omega)
      rw [List.getD, List.getElem?_eq_getElem (by rw [HLL.out]; exact hlt), Option.getD_some] at hor
      have h8 : j < 8 := by omega
      go_wp2
      exact ⟨⟨j + 1, by omega, by go_num, rfl⟩, by simp [intOf]; omega⟩
    · obtain rfl : j = 1 := by omega
      have hc3 := blk_cell H3'.out 0
      have hf3 := blk_fr H3'.out 0
      have hu := acc_u8 l
      go_wp2
      go_end0
      have hg4 : w1.grownBy (w1.setCell ⟨g3, 0, none⟩ (.int .u8 (b8 (num1 l)))) (some g3) := gb_set (gb_ext (Ext.refl _) _) _ _
      refine ⟨rfl, ?_, ?_, ?_⟩
      · obtain ⟨hb, ho⟩ := hR
        exact ⟨(hg4.block g (blk_lt hb) (Ne.symm HN3.out)).trans hb, ho.other hg4 (.inr HV3.out)⟩
      · rw [← HL.out]; exact blk_set H3'.out 0 _
      · exact ((Chg.of_gb (gb_tr (gb_dr (gb_ext (Ext.refl w) (some g))) HG.out)).mono (by simp)).set (.inl (by simp)) _ _

set_option maxRecDepth 8000 in
theorem take8_c (g : Nat) (v : Value) (bs : List UInt8) (k : Nat) (w : World) (h : ReaderAt w g v bs k) (hk : k + 1 ≤ bs.length) :
    Calls Try.prog 94 #[.pointer (some ⟨g, 0, none⟩)] w fun e w' => e = .returned (.int .u8 (b8 (num1 ((bs.drop k).take 1)))) ∧ ReaderAt w' g v bs (k + 1) ∧ w.grownBy w' (some g) := by
  have hmf : ∀ (fn : Fn) (first cap : Array Value) (w : World), (Instr.makeFunc fn first cap).run Try.prog w = .ok (.func fn first cap) w := fun _ _ _ _ => rfl
  have H := Lib.hid h; clear h
  obtain ⟨w2, hw2⟩ : ∃ w2, w2 = (w.alloc (.cells #[.pointer (some ⟨g, 0, none⟩)] 149)).alloc (.cells #[.int .u8 0] 5) := ⟨_, rfl⟩
  have h1 : w2.heap[w.heap.size]? = some (.cells #[.pointer (some ⟨g, 0, none⟩)] 149 (0, 0)) := by rw [hw2]; exact heap_alloc2_old _ _ _
  have h3 : w2.heap[w.heap.size + 1]? = some (.cells #[.int .u8 0] 5 (0, 0)) := by rw [hw2]; exact heap_alloc2_new _ _ _
  have hE2 : Ext w w2 := by rw [hw2]; exact ((Ext.refl w).al _).al _
  have hrd := reading_c g v bs k 102 #[.pointer (some ⟨w.heap.size, 0, none⟩), .pointer (some ⟨w.heap.size + 1, 0, none⟩)] w2
    (fun W w' => ReaderAt w' g v bs (k + 1) ∧ w'.heap[w.heap.size + 1]? = some (.cells #[.int .u8 (b8 (num1 ((bs.drop k).take 1)))] 5 (0, 0)) ∧ Chg [g, w.heap.size + 1] W w')
    (H.out.ext hE2) (enters _ Try.func102 (by kernel_rfl) (by kernel_rfl) _)
    (fun W hW => take8in_c _ _ g v bs k (.int .u8 0) W ((H.out.ext hE2).ext hW) hk (hW.heap h1) (hW.heap h3) (fun e => by have := (World.ownsRow.lt H.out.2 _ e).2; omega))
  rw [hw2] at hrd
  have HRD := Lib.hid hrd; clear hrd
  have HW := Lib.hid hw2; clear hw2 h1 h3
  have HE := Lib.hid hE2; clear hE2
  go_enter Try.func94, Try.ntmps94
  go_wp2_with (go_at_call 98; with_reducible refine HRD.out.mono ?_; rintro e w3 ⟨rfl, W, hW, hR, hv, hC⟩; have hc3 := blk_cell hv 0)
  go_ret
  exact ⟨rfl, hR, ((Chg.of_ext ((((Ext.refl w).al _).al _).tr hW) [g]).tr' hC (by simp)).gb (by simp)⟩

/-! ### bytes -/
theorem bytesin_c (g0 g1 g4 g : Nat) (v : Value) (bs : List UInt8) (k n : Nat) (z : Value) (w : World) (h : ReaderAt w g v bs k) (hk : k + n ≤ bs.length) (hb : bs.length ≤ 70368744177664)
    (h0 : w.heap[g0]? = some (.cells #[.int .i64 (n : Int)] 3 (0, 0))) (h1 : w.heap[g1]? = some (.cells #[.pointer (some ⟨g, 0, none⟩)] 149 (0, 0))) (h4 : w.heap[g4]? = some (.cells #[z] 22 (0, 0))) (hv4 : v.ownBlock ≠ some g4) :
    Calls Try.prog 99 #[.pointer (some ⟨g0, 0, none⟩), .pointer (some ⟨g1, 0, none⟩), .pointer (some ⟨g4, 0, none⟩)] w fun e w' => e = .returned (.tuple #[]) ∧ ReaderAt w' g v bs (k + n) ∧
      (∃ v4, w'.heap[g4]? = some (.cells #[v4] 22 (0, 0)) ∧ OwnS vB 5 w' w.heap.size v4 ((bs.drop k).take n)) ∧ Chg [g, g4] w w' := by
  have hn : 0 ≤ (n : Int) := by omega
  have HV4 := Lib.hid hv4; clear hv4
  have c0 : w.cell? ⟨g0, 0, none⟩ = some (.int .i64 (n : Int)) := blk_cell h0 0
  have c1 : w.cell? ⟨g1, 0, none⟩ = some (.pointer (some ⟨g, 0, none⟩)) := blk_cell h1 0
  have hne : some g4 ≠ some g := by
    rintro e
    injection e with e
    subst e
    obtain ⟨hb, _⟩ := h
    rw [h4] at hb
    injection hb with hb
    injection hb with _ ht
    exact absurd ht (by decide)
  have HN := Lib.hid hne; clear hne
  have H := Lib.hid h; clear h
  have H4 := Lib.hid h4; clear h4
  clear h0 h1
  have ht := take_c g v bs k n w H.out hk
  obtain ⟨l, hl⟩ : ∃ l, l = (bs.drop k).take n := ⟨_, rfl⟩
  have hll : l.length = n := by rw [hl]; simp; omega
  rw [← hl] at ht ⊢
  have HT := Lib.hid ht; clear ht
  have HL := Lib.hid hl; clear hl
  have HLL := Lib.hid hll; clear hll
  go_enter Try.func99, Try.ntmps99
  go_wp2_with (first | (go_at_call 100; with_reducible refine (must_c _ _).mono ?_; rintro e w1 ⟨rfl, rfl⟩) | (go_at_call 101; with_reducible refine HT.out.mono ?_; rintro e w1 ⟨v1, rfl, hv, hR, hg⟩; have HV := Lib.hid hv) | (go_at_call 71; with_reducible refine (bclone_c _ _ _ HV.out (by rw [HLL.out]; omega)).mono ?_; rintro e w2 ⟨v2, rfl, ho, hE⟩; obtain ⟨A2, c2, e2, _, _, _⟩ := ho.form; rw [HLL.out] at e2; subst e2; have h42 := hE.heap ((hg.block g4 (blk_lt H4.out) HN.out).trans H4.out); have hc4 := blk_cell h42 0; have hf4 := blk_fr h42 0))
  go_end0
  have hg4 : w2.grownBy (w2.setCell ⟨g4, 0, none⟩ (.slice A2 n c2)) (some g4) := gb_set (gb_ext (Ext.refl _) _) _ _
  have hR2 := hR.ext hE
  have hlt4 := blk_lt H4.out
  have hlt2 := hg.size
  refine ⟨rfl, ⟨(hg4.block g (blk_lt hR2.1) (Ne.symm HN.out)).trans hR2.1, hR2.2.other hg4 (.inr HV4.out)⟩, ⟨_, blk_set h42 0 _, ?_⟩, ?_⟩
  · exact (ho.other hg4 (.inr (fun e => by have := ho.ge _ e; omega))).lower hg.size
  · exact (((Chg.of_gb hg).tr (Chg.of_ext hE _)).mono (by simp)).set (.inl (by simp)) _ _
set_option maxRecDepth 8000 in
theorem bytes_c (g : Nat) (v : Value) (bs : List UInt8) (k n : Nat) (w : World) (h : ReaderAt w g v bs k) (hk : k + n ≤ bs.length) (hb : bs.length ≤ 70368744177664) :
    Calls Try.prog 93 #[.pointer (some ⟨g, 0, none⟩), .int .i64 (n : Int)] w fun e w' => ∃ v4, e = .returned v4 ∧ OwnS vB 5 w' w.heap.size v4 ((bs.drop k).take n) ∧ ReaderAt w' g v bs (k + n) ∧ w.grownBy w' (some g) := by
  have hmf : ∀ (fn : Fn) (first cap : Array Value) (w : World), (Instr.makeFunc fn first cap).run Try.prog w = .ok (.func fn first cap) w := fun _ _ _ _ => rfl
  have H := Lib.hid h; clear h
  obtain ⟨w2, hw2⟩ : ∃ w2, w2 = ((w.alloc (.cells #[.pointer (some ⟨g, 0, none⟩)] 149)).alloc (.cells #[.int .i64 (n : Int)] 3)).alloc (.cells #[.slice none 0 0] 22) := ⟨_, rfl⟩
  have h1 : w2.heap[w.heap.size]? = some (.cells #[.pointer (some ⟨g, 0, none⟩)] 149 (0, 0)) := by rw [hw2]; exact blk_al (heap_alloc2_old _ _ _) _
  have h0 : w2.heap[w.heap.size + 1]? = some (.cells #[.int .i64 (n : Int)] 3 (0, 0)) := by rw [hw2]; exact blk_al (heap_alloc2_new _ _ _) _
  have h4 : w2.heap[w.heap.size + 1 + 1]? = some (.cells #[.slice none 0 0] 22 (0, 0)) := by rw [hw2]; exact al3 _ _ _ _
  have hE2 : Ext w w2 := by rw [hw2]; exact (((Ext.refl w).al _).al _).al _
  have hrd := reading_c g v bs k 99 #[.pointer (some ⟨w.heap.size + 1, 0, none⟩), .pointer (some ⟨w.heap.size, 0, none⟩), .pointer (some ⟨w.heap.size + 1 + 1, 0, none⟩)] w2
    (fun W w' => ReaderAt w' g v bs (k + n) ∧ (∃ v4, w'.heap[w.heap.size + 1 + 1]? = some (.cells #[v4] 22 (0, 0)) ∧ OwnS vB 5 w' W.heap.size v4 ((bs.drop k).take n)) ∧ Chg [g, w.heap.size + 1 + 1] W w')
    (H.out.ext hE2) (enters _ Try.func99 (by kernel_rfl) (by kernel_rfl) _)
    (fun W hW => bytesin_c _ _ _ g v bs k n (.slice none 0 0) W ((H.out.ext hE2).ext hW) hk hb (hW.heap h0) (hW.heap h1) (hW.heap h4) (fun e => by have := (World.ownsRow.lt H.out.2 _ e).2; omega))
  rw [hw2] at hrd
  have HRD := Lib.hid hrd; clear hrd
  have HW := Lib.hid hw2; clear hw2 h1 h0 h4
  have HE := Lib.hid hE2; clear hE2
  obtain ⟨l, hl⟩ : ∃ l, l = (bs.drop k).take n := ⟨_, rfl⟩
  have hll : l.length = n := by rw [hl]; simp; omega
  rw [← hl] at HRD ⊢
  have HL := Lib.hid hl; clear hl
  have HLL := Lib.hid hll; clear hll
  go_enter Try.func93, Try.ntmps93
  go_wp2_with (go_at_call 98; with_reducible refine HRD.out.mono ?_; rintro e w3 ⟨rfl, W, hW, hR, ⟨v4, hv, ho⟩, hC⟩; obtain ⟨A2, c2, e2, _, _, _⟩ := ho.form; rw [HLL.out] at e2; subst e2; have hc3 := blk_cell hv 0; have hf3 := blk_fr hv 0)
  have hg4 : w3.grownBy (w3.setCell ⟨w.heap.size + 1 + 1, 0, none⟩ (.slice A2 n c2)) (some (w.heap.size + 1 + 1)) := gb_set (gb_ext (Ext.refl _) _) _ _
  have hs4 := blk_set hv 0 (.slice A2 n c2)
  have hc4 : (w3.setCell ⟨w.heap.size + 1 + 1, 0, none⟩ (.slice A2 n c2)).cell? ⟨w.heap.size + 1 + 1, 0, none⟩ = some (.slice A2 n c2) := blk_cell hs4 0
  have hgl := blk_lt H.out.1
  have hlt := hW.size
  simp only [World.size_alloc] at hlt
  refine bodyPost_ret (v := .slice A2 n c2) (by simp [results, Try.results93, go_sem, hc4]) rfl ⟨_, rfl, ?_, ⟨?_, ?_⟩, ?_⟩
  · exact (ho.other hg4 (.inr (fun e => by have := ho.ge _ e; omega))).lower (by omega)
  · exact (hg4.block g (blk_lt hR.1) (by simp; omega)).trans hR.1
  · exact hR.2.other hg4 (.inr (own_ne hR.2 hv (by decide)))
  · exact (((Chg.of_ext (((((Ext.refl w).al _).al _).al _).tr hW) [g]).tr' hC (by simp; omega)).set (.inr (by omega)) _ _).gb (by simp)
end Go.Proofs.Ytmcgcfbdofpfdaa
