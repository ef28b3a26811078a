/- Matrices of elements: noughts, the identity. -/
import Derived.Test.YtmcgcfbdofpfdaaFrameI
import Derived.Test.YtmcgcfbdofpfdaaRowW
namespace Go.Proofs.Ytmcgcfbdofpfdaa
open Go.RowKit
theorem infoRE : (Try.prog.info? 65).map (fun i => (i.zero, i.size, i.bytes)) = some (some (idV (.slice none 0 0)), 1, 24) := by kernel_rfl
theorem infoEl : (Try.prog.info? 39).map (fun i => (i.zero, i.size, i.bytes)) = some (some (vB 0), 1, 1) := by kernel_rfl
/-- So many rows are there, the others are nil. -/
def rowsTo (xss : List (List UInt8)) (k : Nat) : List (List UInt8) := xss.take k ++ List.replicate (xss.length - k) []
theorem rowsTo_eq (xss : List (List UInt8)) (k : Nat) : rowsTo xss k = fillTo xss [] k := rfl
set_option maxRecDepth 8000 in
theorem zeros_c (r c : Nat) (w : World) (hr : 1 ≤ r) (hr2 : r ≤ 255) (hc : 1 ≤ c) (hc2 : c ≤ 255) :
    Calls Try.prog 65 #[.int .i64 r, .int .i64 c] w fun e w' => ∃ g vs, e = .returned (.slice (some ⟨g, 0, none⟩) r r) ∧ RowsW 65 39 w' w.heap.size (.slice (some ⟨g, 0, none⟩) r r) vs (List.replicate r (List.replicate c 0)) ∧ Ext w w' := by
  obtain ⟨W, hW⟩ : ∃ W, W = List.replicate r (List.replicate c (0 : UInt8)) := ⟨_, rfl⟩
  have hWl : W.length = r := by rw [hW]; simp
  have HWL := Lib.hid hWl; clear hWl
  have HW := Lib.hid hW; clear hW
  go_enter Try.func65, Try.ntmps65
  go_wp2_with (refine wpList_make_S (enc := idV) (.slice none 0 0) rfl rfl (.tmp 7) (.tmp 7) 64 65 24 w.heap.size rfl Try.underlying64 infoRE r rfl rfl rfl rfl (by omega) (by unfold maxLen; omega) (Nat.le_refl _) ?_; intro w1 ho hE)
  go_loopw [11] (fun i wr => ∃ (k : Nat) (vs : List Value), k ≤ r ∧ i = .int .i64 k ∧ Hid (RowsW 65 39 wr w.heap.size (.slice (some ⟨w.heap.size, 0, none⟩) r r) vs (fillTo W [] k)) ∧ Hid (Ext w wr)) (fun i _ => r - (intOf i).toNat)
  case atStart => exact ⟨0, _, by omega, rfl, by rw [fillTo_zero, HWL.out]; exact Lib.hid (RowsW.new _ _ ho), Lib.hid hE⟩
  case round =>
    clear ho hE
    obtain ⟨k, vs, hk, rfl, HO, HE⟩ := hrel
    by_cases hlt : k < r
    · have hlv : vs.length = r := by rw [HO.out.len, fillTo_length, HWL.out]
      have HLV := Lib.hid hlv; clear hlv
      go_wp2_with (refine wpList_make_S (enc := vB) 0 rfl rfl (.tmp 16) (.tmp 16) 65 39 1 wr.heap.size rfl Try.underlying65 infoEl c rfl rfl rfl rfl (by omega) (by unfold maxLen; omega) (Nat.le_refl _) ?_; intro w2 ho2 hE2; obtain ⟨g, hg, hg1, hg2, hg3, hg4⟩ := HO.out.put_new (by decide) (k := k) (by rw [HLV.out]; exact hlt) HE.out.size ho2 hE2; injection hg with hg; injection hg with hg; subst hg; have HP := Lib.hid hg4; clear hg4 ho2)
      refine ⟨⟨k + 1, vs.set k (.slice (some ⟨wr.heap.size, 0, none⟩) c c), by omega, by go_num, ?_, Lib.hid ((HE.out.tr hE2).set (Nat.le_refl _) _)⟩, by simp [intOf]; omega⟩
      have h := HP.out
      have e := fillTo_set (d := ([] : List UInt8)) (ys := W) k (by rw [HWL.out]; exact hlt)
      have e2 : W[k]'(by rw [HWL.out]; exact hlt) = List.replicate c 0 := by simp [HW.out]
      rw [e2] at e
      rw [e] at h
      exact Lib.hid h
    · obtain rfl : k = r := by omega
      go_wp2
      go_ret
      refine ⟨_, vs, rfl, ?_, HE.out⟩
      have h := HO.out
      rw [← HWL.out, fillTo_all, HWL.out, HW.out] at h
      exact h
theorem fillTo_get {α : Type} (ys : List α) (d : α) (k : Nat) (h : k < ys.length) (h' : k < (fillTo ys d k).length) : (fillTo ys d k)[k]'h' = d := by
  simp only [fillTo]
  rw [List.getElem_append_right (by simp; omega)]
  simp
def identL (n : Nat) (x : UInt8) : List (List UInt8) := (List.range n).map fun i => (List.replicate n 0).set i x
set_option maxRecDepth 8000 in
theorem identity_c (n : Nat) (x : UInt8) (w : World) (hn : 1 ≤ n) (hn2 : n ≤ 255) :
    Calls Try.prog 63 #[.int .i64 n, .int .u8 (b8 x)] w fun e w' => ∃ g vs, e = .returned (.tuple #[.slice (some ⟨g, 0, none⟩) n n, .int .i64 0]) ∧ RowsW 65 39 w' w.heap.size (.slice (some ⟨g, 0, none⟩) n n) vs (identL n x) ∧ Ext w w' := by
  obtain ⟨W, hW⟩ : ∃ W, W = identL n x := ⟨_, rfl⟩
  have hWl : W.length = n := by rw [hW]; simp [identL]
  have HWL := Lib.hid hWl; clear hWl
  have HW := Lib.hid hW; clear hW
  go_enter Try.func63, Try.ntmps63
  go_wp2_with (go_at_call 65; (with_reducible refine (zeros_c n n _ hn hn2 hn hn2).mono ?_); rintro e w1 ⟨g, vs, rfl, ho, hE⟩)
  go_loopw [17] (fun i wr => ∃ (k : Nat), k ≤ n ∧ i = .int .i64 k ∧ Hid (RowsW 65 39 wr w.heap.size (.slice (some ⟨g, 0, none⟩) n n) vs (fillTo W (List.replicate n 0) k)) ∧ Hid (Ext w wr)) (fun i _ => n - (intOf i).toNat)
  case atStart => exact ⟨0, by omega, rfl, by rw [fillTo_zero, HWL.out]; exact Lib.hid ho, Lib.hid hE⟩
  case round =>
    clear ho hE
    obtain ⟨k, hk, rfl, HO, HE⟩ := hrel
    by_cases hlt : k < n
    · have hlv : vs.length = n := by rw [HO.out.len, fillTo_length, HWL.out]
      have HLV := Lib.hid hlv; clear hlv
      have hfg := fillTo_get W (List.replicate n 0) k (by rw [HWL.out]; exact hlt) (by rw [fillTo_length, HWL.out]; exact hlt)
      obtain ⟨g0, hg0, hgb, hc1⟩ := HO.out.at_ (k := k) (by rw [HLV.out]; exact hlt)
      injection hg0 with hg0
      injection hg0 with hg0
      subst hg0
      obtain ⟨g1, c1, hv1, hb1, hc2, hf2, hs2⟩ := HO.out.cell (by decide) (k := k) (j := k) (by rw [HLV.out]; exact hlt) (by rw [fillTo_length, HWL.out]; exact hlt) (by rw [hfg]; simpa using hlt)
      rw [hv1] at hc1
      simp only [hfg, List.length_replicate, List.getElem_replicate, vB] at hc1 hc2 hs2
      have HS := Lib.hid (hs2 x); clear hs2 hv1
      go_wp2
      refine ⟨⟨k + 1, by omega, by go_num, ?_, Lib.hid (HE.out.set hb1 _)⟩, by simp [intOf]; omega⟩
      have h := HS.out
      have e := fillTo_set (d := List.replicate n (0 : UInt8)) (ys := W) k (by rw [HWL.out]; exact hlt)
      have e2 : W[k]'(by rw [HWL.out]; exact hlt) = (List.replicate n 0).set k x := by simp [HW.out, identL]
      rw [e2] at e
      rw [e] at h
      exact Lib.hid h
    · obtain rfl : k = n := by omega
      go_wp2
      go_ret2
      refine ⟨g, vs, rfl, ?_, HE.out⟩
      have h := HO.out
      have e : fillTo W (List.replicate k 0) k = W := by have := fillTo_all (ys := W) (d := List.replicate k (0 : UInt8)); rwa [HWL.out] at this
      rwa [e, HW.out] at h
end Go.Proofs.Ytmcgcfbdofpfdaa
