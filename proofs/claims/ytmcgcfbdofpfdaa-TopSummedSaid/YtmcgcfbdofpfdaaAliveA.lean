/- The walk of alive. -/
import Derived.Test.YtmcgcfbdofpfdaaSplitB
import Derived.BigRegion
import Derived.Lib.SlBytesConst
namespace Go.Proofs.Ytmcgcfbdofpfdaa
open Go.RowKit
def hA0 : Hd := { s0 := 0, s1 := 0, s2 := 0, s3 := 0, s4 := 0, s5 := 0, s6 := 0, s7 := 0, k := 2, m := 1, b := 4, key := ⟨#[97]⟩, size := 0, index := 0, epoch := 1, count := 1 }
def dA0 : List UInt8 := [104, 101, 108, 108, 111]
theorem wordA : wordL hA0 dA0 = [[104, 101, 108], [108, 111, 0], [96, 113, 180]] := by decide +kernel
theorem lensA : lensL 2 4 5 = [3] := by decide +kernel
theorem okA (i : Nat) (hi : i < 3) : (hA0.of 5 i).Ok :=
  ⟨⟨show 1 ≤ 1 from by decide, show 1 ≤ 2 from by decide, show 2 ≤ 255 from by decide, show 2 + 1 ≤ 255 from by decide, show 1 ≤ 4 from by decide, show 4 ≤ 65536 from by decide⟩, show 1 ≤ 1 from by decide, show 1 ≤ 255 from by decide, show 5 ≤ 1048576 from by decide, show stripes 2 4 5 ≤ 4096 from by decide, hi,
    show 1 ≤ 1 from by decide, show 1 ≤ 4294967295 from by decide, show 1 ≤ 1 from by decide, show 1 ≤ 4294967295 from by decide⟩
def cA0 : Array Value := #[.int .u8 104, .int .u8 101, .int .u8 108, .int .u8 108, .int .u8 111]
theorem sl_lit (w : World) : SlV vB (w.alloc (.cells cA0 5 (5, 6))) (.slice (some ⟨w.heap.size, 0, none⟩) 5 5) dA0 :=
  ⟨_, _, rfl, Nat.le_refl _, by unfold maxLen; omega, RdS.blk (heap_alloc_new w _) 0 dA0 (fun k hk => by
    match k, hk with
    | 0, _ => rfl
    | 1, _ => rfl
    | 2, _ => rfl
    | 3, _ => rfl
    | 4, _ => rfl)⟩
def hvA (n i : Nat) : Array Value := #[.int .u8 0, .int .u8 0, .int .u8 0, .int .u8 0, .int .u8 0, .int .u8 0, .int .u8 0, .int .u8 0, .int .i64 2, .int .i64 1, .int .i64 4, .string ⟨#[97]⟩, .int .i64 (n : Int), .int .i64 (i : Int), .int .i64 1, .int .i64 1]
theorem hvA_eq (n i : Nat) : (hA0.of n i).cells = (hvA n i).toList := rfl
def W1A (w : World) : World := w.alloc (.cells #[.int .u8 104, .int .u8 101, .int .u8 108, .int .u8 108, .int .u8 111] 5 (5, 6))
theorem split_a (w : World) : Calls Try.prog 50 #[.agg #[.int .u8 0, .int .u8 0, .int .u8 0, .int .u8 0, .int .u8 0, .int .u8 0, .int .u8 0, .int .u8 0, .int .i64 2, .int .i64 1, .int .i64 4, .string ⟨#[97]⟩, .int .i64 0, .int .i64 0, .int .i64 1, .int .i64 1], .slice (some ⟨w.heap.size, 0, none⟩) 5 5]
    (w.alloc (.cells #[.int .u8 104, .int .u8 101, .int .u8 108, .int .u8 108, .int .u8 111] 5 (5, 6))) fun e w' => ∃ (g : Nat) (bvs : Nat → Value), e = .returned (.tuple #[.slice (some ⟨g, 0, none⟩) 3 3, .int .i64 0]) ∧ OutB w' g 3 (finTo hA0 5 bvs 3) ∧
      OwnR R8 22 w' 0 (bvs 0) [[104, 101, 108]] ∧ OwnR R8 22 w' 0 (bvs 1) [[108, 111, 0]] ∧ OwnR R8 22 w' 0 (bvs 2) [[96, 113, 180]] ∧ Ext w w' := by
  have hsp := split_c hA0 dA0 _ _ (okA 0 (by omega)) (sl_lit w) (by decide +kernel) (by decide +kernel)
  refine Calls.mono hsp ?_
  rintro e w' ⟨g, bvs, word, hw, rfl, ⟨hO, hB⟩, hE⟩
  rw [wordA] at hw
  subst hw
  exact ⟨g, bvs, rfl, hO, hB 0 (by decide), hB 1 (by decide), hB 2 (by decide), ((Ext.refl w).al _).tr hE⟩
/-- What is read of one row of one block. -/
theorem one_row {w : World} {v : Value} {x : List UInt8} (h : OwnR R8 22 w 0 v [x]) (hx : x ≠ []) : ∃ (b o b' o' c c' : Nat), v = .slice (some ⟨b, o, none⟩) 1 c ∧ 1 ≤ c ∧ c ≤ 9223372036854775807 ∧ w.cell? ⟨b, o, none⟩ = some (.slice (some ⟨b', o', none⟩) x.length c') ∧ x.length ≤ c' ∧ c' ≤ 9223372036854775807 ∧ ∀ k, (hk : k < x.length) → w.cell? ⟨b', o' + k, none⟩ = some (vB x[k]) := by
  obtain ⟨A, c, e, h1, h2, h3⟩ := h.sl
  obtain ⟨b, o, u, rfl, _, hc, hr⟩ := h3.at_ (k := 0) (by simp)
  simp only [List.getElem_cons_zero] at hr
  obtain ⟨A', c', rfl, h4, h5, h6⟩ := OwnS.sl hr
  obtain ⟨b', o', rfl, _, hcc⟩ := h6 hx
  exact ⟨b, o, b', o', c, c', e, h1, h2, by rw [Nat.add_zero] at hc; exact hc, h4, h5, hcc⟩
theorem str3 (x y z : UInt8) (W : World) (B O C : Nat) (h0 : W.cell? ⟨B, O, none⟩ = some (.int .u8 (b8 x))) (h1 : W.cell? ⟨B, O + 1, none⟩ = some (.int .u8 (b8 y))) (h2 : W.cell? ⟨B, O + 2, none⟩ = some (.int .u8 (b8 z))) :
    (convert 22 9 (.slice (some ⟨B, O, none⟩) 3 C)).run Try.prog W = .ok (.string ⟨#[x, y, z]⟩) W := by
  have := run_convert_bytes_back (P := Try.prog) W 22 9 5 ⟨B, O, none⟩ C [x, y, z] Try.underlying22 Try.underlying5 Try.underlying9 (fun j hj => by
    rw [Addr.add_mid]
    match j, hj with
    | 0, _ => exact h0
    | 1, _ => exact h1
    | 2, _ => exact h2)
  exact this
set_option maxRecDepth 20000 in
set_option maxHeartbeats 2000000 in
theorem alive_c (w : World) : Calls Try.prog 17 #[] w fun e w' => e = .returned (.bool true) ∧ Ext w w' := by
  have HSP := Lib.hid (split_a w)
  have kc := fun (w : World) (C : Array Value) (n c : Nat) => Lib.run_convert_bytes_const (P := Try.prog) w 22 5 C n c Try.underlying22 Try.underlying5
  have ks1 : ∀ (W : World) (B O C : Nat), W.cell? ⟨B, O, none⟩ = some (.int .u8 96) → W.cell? ⟨B, O + 1, none⟩ = some (.int .u8 113) → W.cell? ⟨B, O + 2, none⟩ = some (.int .u8 180) → (convert 22 9 (.slice (some ⟨B, O, none⟩) 3 C)).run Try.prog W = .ok (.string ⟨#[96, 113, 180]⟩) W := fun W B O C h0 h1 h2 => str3 96 113 180 W B O C h0 h1 h2
  go_enter Try.func17, Try.ntmps17
  go_upto_region 2 with (first | (go_at_call 50; (with_reducible refine HSP.out.mono ?_); rintro e w2 ⟨g, bvs, rfl, hO, hB0, hB1, hB2, hE⟩))
  clear HSP
  obtain ⟨b, o, b', o', c, c', ev, hc1, hc2, hcb, hc3, hc4, hcc⟩ := one_row hB2 (by simp)
  have h50 : w2.cell? ⟨g, 50, none⟩ = some (bvs 2) := (hO.cell (k := 2) (j := 16) (by omega) (by omega)).1
  rw [ev] at h50
  have k0 := hcc 0 (by simp)
  have k1 := hcc 1 (by simp)
  have k2 := hcc 2 (by simp)
  simp only [vB, List.getElem_cons_zero, List.getElem_cons_succ, Nat.add_zero, List.length_cons, List.length_nil, Nat.zero_add, Nat.reduceAdd, show b8 96 = 96 from rfl, show b8 113 = 113 from rfl, show b8 180 = 180 from rfl] at k0 k1 k2 hcb
  have hEa : Ext w2 (w2.alloc (.cells #[.int .u8 96, .int .u8 113, .int .u8 180] 5)) := (Ext.refl w2).al _
  have h50a := hEa.cl h50
  have hcba := hEa.cl hcb
  have k0a := hEa.cl k0
  have k1a := hEa.cl k1
  have k2a := hEa.cl k2
  clear hcc ev hEa
  have HO := Lib.hid hO; clear hO
  have HB1 := Lib.hid hB1; clear hB1
  have HE := Lib.hid hE; clear hE
  clear hB0 hB2
  go_region
  clear ks1 h50 h50a hcb hcba k0 k1 k2 k0a k1a k2a hc1 hc2 hc3 hc4
  have hE3 : Ext w2 (w2.alloc (.cells #[.int .u8 96, .int .u8 113, .int .u8 180] 5)).drew := ((Ext.refl w2).al _).dr
  generalize (w2.alloc (.cells #[.int .u8 96, .int .u8 113, .int .u8 180] 5)).drew = w3 at hE3 ⊢
  have hr1 := (HO.out.ext hE3).range (k := 1) (by omega)
  rw [show finTo hA0 5 bvs 3 1 = (hA0.of 5 1).cells ++ [bvs 1] from rfl] at hr1
  have hB3 := HB1.out.ext stays_R8 hE3
  have henc := encode_c (hA0.of 5 1) (bvs 1) [[108, 111, 0]] w3 (okA 1 (by omega)) (OwnR.toS (T1 := 5) hB3) lensA.symm
  have hpar := fun v W (hv : SlV vB W v (fileB (hA0.of 5 1) [[108, 111, 0]])) => parse_c (hA0.of 5 1) [[108, 111, 0]] v W (okA 1 (by omega)) lensA.symm hv (by decide +kernel)
  simp only [Hd.with_] at henc hpar
  have HENC := Lib.hid henc; clear henc
  have HPAR := Lib.hid hpar; clear hpar
  have HR1 := Lib.hid hr1; clear hr1
  have HE3 := Lib.hid (HE.out.tr hE3)
  clear hB3 hE3 HO HB1 HE
  go_upto_region 8 with (first | ((with_reducible show wpList _ _ _ ({ dst := some 44, op := .load 96 (.tmp 43), type := _, pos := _, after := _, guard := none } :: _) _ _); refine wpList_load_mid rfl 96 (.tmp 43) rfl g 17 rfl _ _ HR1.out Try.underlying96 rfl (by kernel_rfl) ?_) | (go_at_call 51; (with_reducible refine HENC.out.mono ?_); rintro e w4 ⟨v4, rfl, ho4, hE4⟩; have HE4 := Lib.hid (HE3.out.tr hE4); have HO4 := Lib.hid ho4; clear ho4 hE4 HENC HR1 HE3) | (go_at_call 52; (with_reducible refine (HPAR.out _ _ HO4.out.sl).mono ?_); rintro e w5 ⟨⟨vb, rfl, hob⟩, hE5⟩; obtain ⟨b, o, b', o', c, c', ev, hc1, hc2, hcb, hc3, hc4, hcc⟩ := one_row (hob.lower (Nat.zero_le _)) (by simp); subst ev; have HE5 := Lib.hid (HE4.out.tr hE5); have HCC := Lib.hid hcc; have HCB := Lib.hid hcb; clear hob hE5 HE4 HO4 hcc hcb) | ((with_reducible show wpList _ _ _ ({ dst := none, op := .store 96 (.tmp 4) (.tmp 53), type := _, pos := _, after := _, guard := none } :: _) _ _); refine wpList_store_blk rfl rfl 96 (.tmp 4) (.tmp 53) rfl w5.heap.size ((hA0.of 5 1).cells ++ [Value.slice (some ⟨b, o, none⟩) 1 c]).toArray rfl rfl 96 _ (heap_alloc_new w5 _) (by kernel_rfl) rfl (by simp [hvA_eq, hvA, Value.oneCell']) ?_; intro w6 hb6 hg6; have HB6 := Lib.hid hb6; have HE6 := Lib.hid (((Ext.refl w5).al _).gr hg6 (fun k hk => by injection hk with e; exact e ▸ Nat.le_refl _)); clear hb6 hg6))
  have h11 : w6.cell? ⟨w5.heap.size, 11, none⟩ = some (.string ⟨#[97]⟩) := (blk_cell HB6.out 11).trans rfl
  have h16 : w6.cell? ⟨w5.heap.size, 16, none⟩ = some (.slice (some ⟨b, o, none⟩) 1 c) := (blk_cell HB6.out 16).trans rfl
  have hcb := HE6.out.cl HCB.out
  have k0 := HE6.out.cl (HCC.out 0 (by simp))
  have k1 := HE6.out.cl (HCC.out 1 (by simp))
  have k2 := HE6.out.cl (HCC.out 2 (by simp))
  simp only [vB, List.getElem_cons_zero, List.getElem_cons_succ, Nat.add_zero, List.length_cons, List.length_nil, Nat.zero_add, Nat.reduceAdd, show b8 108 = 108 from rfl, show b8 111 = 111 from rfl, show b8 0 = 0 from rfl] at k0 k1 k2 hcb
  have hEa : Ext w6 (w6.alloc (.cells #[.int .u8 108, .int .u8 111, .int .u8 0] 5)) := (Ext.refl w6).al _
  have h11a := hEa.cl h11
  have h16a := hEa.cl h16
  have hcba := hEa.cl hcb
  have k0a := hEa.cl k0
  have k1a := hEa.cl k1
  have k2a := hEa.cl k2
  have HEF := Lib.hid ((HE5.out.tr HE6.out).tr hEa)
  have ks1 : ∀ (W : World) (B O C : Nat), W.cell? ⟨B, O, none⟩ = some (.int .u8 108) → W.cell? ⟨B, O + 1, none⟩ = some (.int .u8 111) → W.cell? ⟨B, O + 2, none⟩ = some (.int .u8 0) → (convert 22 9 (.slice (some ⟨B, O, none⟩) 3 C)).run Try.prog W = .ok (.string ⟨#[108, 111, 0]⟩) W := fun W B O C h0 h1 h2 => str3 108 111 0 W B O C h0 h1 h2
  clear hEa HCB HCC HB6 HE6 HE5 HPAR
  generalize w5.heap.size = g4 at h11 h16 h11a h16a ⊢
  go_region
  go_wp2_with fail
  go_ret
  exact ⟨rfl, HEF.out.dr⟩
end Go.Proofs.Ytmcgcfbdofpfdaa
