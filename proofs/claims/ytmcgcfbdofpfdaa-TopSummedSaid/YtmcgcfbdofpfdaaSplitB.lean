/- The walk of stripe.Split. -/
import Derived.Test.YtmcgcfbdofpfdaaSplitE
namespace Go.Proofs.Ytmcgcfbdofpfdaa
open Go.RowKit
attribute [local irreducible] gmul gpow ginv
theorem infoSh : (Try.prog.info? 96).map (fun i => (i.zero, i.size, i.bytes)) = some (some (.agg #[.int .u8 0, .int .u8 0, .int .u8 0, .int .u8 0, .int .u8 0, .int .u8 0, .int .u8 0, .int .u8 0, .int .i64 0, .int .i64 0, .int .i64 0, .string ⟨#[]⟩, .int .i64 0, .int .i64 0, .int .i64 0, .int .i64 0, .slice none 0 0]), 17, 104) := by kernel_rfl
def Hd.of (h : Hd) (n : Nat) (i : Nat) : Hd := { h with size := n, index := i }
def zSh : Array Value := #[.int .u8 0, .int .u8 0, .int .u8 0, .int .u8 0, .int .u8 0, .int .u8 0, .int .u8 0, .int .u8 0, .int .i64 0, .int .i64 0, .int .i64 0, .string ⟨#[]⟩, .int .i64 0, .int .i64 0, .int .i64 0, .int .i64 0, .slice none 0 0]
/-- The first k shards have their heads. -/
def headsTo (h : Hd) (n k : Nat) : Nat → List Value := fun i => if i < k then (h.of n i).cells ++ [.slice none 0 0] else zSh.toList
theorem headsTo_put (h : Hd) (n k : Nat) : upd (headsTo h n k) k ((h.of n 0).cells ++ (headsTo h n k k).drop 16) = upd (headsTo h n k) k ((h.of n 0).cells ++ [.slice none 0 0]) := by
  have : headsTo h n k k = zSh.toList := by simp [headsTo]
  rw [this]; rfl
theorem headsTo_set (h : Hd) (n k : Nat) : upd (upd (headsTo h n k) k ((h.of n 0).cells ++ [.slice none 0 0])) k (((upd (headsTo h n k) k ((h.of n 0).cells ++ [.slice none 0 0])) k).set 13 (.int .i64 k)) = headsTo h n (k + 1) := by
  funext i
  unfold upd
  by_cases e : i = k
  · subst e
    simp only [if_true]
    have : headsTo h n (i + 1) i = (h.of n i).cells ++ [.slice none 0 0] := by simp [headsTo]
    rw [this]; rfl
  · rw [if_neg e, if_neg e]
    unfold headsTo
    by_cases e2 : i < k
    · rw [if_pos e2, if_pos (by omega)]
    · rw [if_neg e2, if_neg (by omega)]
theorem codeL_rows (k m : Nat) : ∀ r ∈ codeL k m, r.length = k := by
  intro r hr
  simp only [codeL, identL, weightsL, List.mem_append, List.mem_map] at hr
  rcases hr with ⟨i, _, rfl⟩ | ⟨i, _, rfl⟩ <;> simp
theorem codeL_len (k m : Nat) : (codeL k m).length = k + m := by simp [codeL, identL]
/-- The shards' cells where the first i have their blocks. -/
def finTo (h : Hd) (n : Nat) (bvs : Nat → Value) (i : Nat) : Nat → List Value := fun q => (h.of n q).cells ++ [if q < i then bvs q else .slice none 0 0]
theorem OutB.congr {w : World} {g N : Nat} {vals vals' : Nat → List Value} (h : OutB w g N vals) (hl : ∀ i, (vals' i).length = 17) (he : ∀ q, q < N → vals q = vals' q) : OutB w g N vals' := by
  obtain ⟨_, cs, h1, h2, h3⟩ := h
  exact ⟨hl, cs, h1, h2, fun i hi j hj => by rw [h3 i hi j hj, he i hi]⟩
theorem finTo_len (h : Hd) (n : Nat) (bvs : Nat → Value) (i q : Nat) : (finTo h n bvs i q).length = 17 := rfl
theorem finTo_upd (h : Hd) (n : Nat) (bvs : Nat → Value) (i : Nat) (bv : Value) : upd (finTo h n bvs i) i ((finTo h n bvs i i).set 16 bv) = finTo h n (upd bvs i bv) (i + 1) := by
  funext q
  unfold upd
  by_cases e : q = i
  · subst e
    rw [if_pos rfl]
    show _ = (h.of n q).cells ++ [if q < q + 1 then (if q = q then bv else bvs q) else _]
    rw [if_pos (by omega), if_pos rfl]
    rfl
  · rw [if_neg e]
    unfold finTo
    by_cases e2 : q < i
    · rw [if_pos e2, if_pos (show q < i + 1 by omega)]
      simp [e]
    · rw [if_neg e2, if_neg (show ¬ q < i + 1 by omega)]
theorem finTo_same (h : Hd) (n : Nat) (bvs : Nat → Value) (i : Nat) : upd (finTo h n bvs i) i ((finTo h n bvs i i).set 16 (.slice none 0 0)) = finTo h n bvs i := by
  funext q
  unfold upd
  by_cases e : q = i
  · subst e
    rw [if_pos rfl]
    show _ = (h.of n q).cells ++ [if q < q then bvs q else _]
    rw [if_neg (by omega)]
    unfold finTo
    rw [if_neg (by omega)]
    rfl
  · rw [if_neg e]
theorem OwnS.chgT {α : Type} {enc : α → Value} {T T1 T2 : TypeId} {w w' : World} {base g1 g2 : Nat} {v : Value} {xs : List α} {c1 c2 : Array Value} {f1 f2 : Nat × Nat} (h : OwnS enc T w base v xs) (hC : Chg [g1, g2] w w') (h1 : w.heap[g1]? = some (.cells c1 T1 f1)) (h2 : w.heap[g2]? = some (.cells c2 T2 f2)) (n1 : T ≠ T1) (n2 : T ≠ T2) : OwnS enc T w' base v xs :=
  h.chg hC fun k hk hm => by
    simp at hm
    rcases hm with rfl | rfl
    · exact own_ne h h1 n1 hk
    · exact own_ne h h2 n2 hk
theorem OwnR.chg8 {w w' : World} {base g1 g2 : Nat} {v : Value} {bl : List (List UInt8)} {c1 c2 : Array Value} {f1 f2 : Nat × Nat} (h : OwnR R8 22 w base v bl) (hC : Chg [g1, g2] w w') (h1 : w.heap[g1]? = some (.cells c1 96 f1)) (h2 : w.heap[g2]? = some (.cells c2 22 f2)) (b1 : g1 < base) (b2 : g2 < base) : OwnR R8 22 w' base v bl := by
  obtain ⟨vs, ho, hl, hr⟩ := h
  refine ⟨vs, ho.chg hC fun k hk hm => ?_, hl, fun k a b => (hr k a b).chgT hC h1 h2 (by decide) (by decide)⟩
  have := ho.ge k hk
  simp at hm
  omega
/-- The rows of all stripes, one behind the other. -/
def wordL (h : Hd) (data : List UInt8) : List (List UInt8) :=
  prodL (codeL h.k h.m) (dealTo h.k (lensL h.k h.b data.length) data (lensL h.k h.b data.length).length).2 (sumTo (lensL h.k h.b data.length) (lensL h.k h.b data.length).length)
set_option maxRecDepth 20000 in
set_option maxHeartbeats 4000000 in
theorem split_c (h : Hd) (data : List UInt8) (v : Value) (w : World) (hok : (h.of data.length 0).Ok) (hv : SlV vB w v data) (hS : (lensL h.k h.b data.length).foldl (· + ·) 0 < 256) (hS1 : 1 ≤ (lensL h.k h.b data.length).foldl (· + ·) 0) :
    Calls Try.prog 50 #[h.val, v] w fun e w' => ∃ (g : Nat) (bvs : Nat → Value) (word : List (List UInt8)), word = wordL h data ∧
      e = .returned (.tuple #[.slice (some ⟨g, 0, none⟩) (h.k + h.m) (h.k + h.m), .int .i64 0]) ∧ (OutB w' g (h.k + h.m) (finTo h data.length bvs (h.k + h.m)) ∧ ∀ q, q < h.k + h.m → OwnR R8 22 w' 0 (bvs q) (chunksL (lensL h.k h.b data.length) (word.getD q []) (lensL h.k h.b data.length).length)) ∧ Ext w w' := by
  have hchk := fun W => check_c (h.of data.length 0) W hok
  obtain ⟨hsh, k1, k2, hz, hst, hix, he1, he2, hc1, hc2⟩ := hok
  simp only [Hd.of] at hsh k1 k2 hz hst hix
  have hnew := fun W => new_c h.k h.m W hsh.m1 hsh.m2 (by have := hsh.km; have := hsh.m1; omega) hsh.km
  have hsiz := fun W => sizes_c h.k h.m h.b data.length W hsh hz hst
  obtain ⟨A, c, rfl, hlc, hcm, hr⟩ := hv
  unfold maxLen at hcm
  have HR := Lib.hid hr; clear hr
  have HCHK := Lib.hid hchk; clear hchk
  have HNEW := Lib.hid hnew; clear hnew
  have HSIZ := Lib.hid hsiz; clear hsiz
  simp only [shV] at HSIZ
  simp only [Hd.val] at HCHK
  unfold Hd.val
  go_enter Try.func50, Try.ntmps50
  go_upto_region 2 with (first | ((with_reducible show wpList _ _ _ ({ dst := none, op := .store 3 (.tmp 25) (.tmp 24), type := _, pos := _, after := _, guard := none } :: _) _ _); refine wpList_store_cell' rfl rfl 3 (.tmp 25) (.tmp 24) rfl w.heap.size 12 (.int .i64 data.length) rfl rfl rfl 94 _ (heap_alloc_new w _) (by kernel_rfl) (by show 12 < 16; omega) ?_; intro wa hwa; have HWA := Lib.hid hwa; clear hwa; have hba : wa.heap[w.heap.size]? = some (.cells (h.of data.length h.index).cells.toArray 94 (0, 0)) := (by rw [HWA.out, blk_set (heap_alloc_new w _)]; rfl)) | ((with_reducible show wpList _ _ _ ({ dst := none, op := .store 3 (.tmp 26) (.const (.int .i64 0)), type := _, pos := _, after := _, guard := none } :: _) _ _); refine wpList_store_cell' rfl rfl 3 (.tmp 26) (.const (.int .i64 0)) rfl w.heap.size 13 (.int .i64 0) rfl rfl rfl 94 _ hba (by kernel_rfl) (by show 13 < 16; omega) ?_; intro w1 hwb; have HWB := Lib.hid hwb; clear hwb; have hb1 : w1.heap[w.heap.size]? = some (.cells (h.of data.length 0).cells.toArray 94 (0, 0)) := (by rw [HWB.out, blk_set hba]; rfl); clear hba))
  have hE1 : Ext w w1 := by rw [HWB.out, HWA.out]; exact (((Ext.refl w).al _).set (Nat.le_refl _) _).set (Nat.le_refl _) _
  clear HWA HWB
  have HB1 := Lib.hid hb1; clear hb1
  have HE1 := Lib.hid hE1; clear hE1
  have hck : ∀ W, Ext w1 W → W.cell? ⟨w.heap.size, 8, none⟩ = some (.int .i64 h.k) ∧ W.cell? ⟨w.heap.size, 9, none⟩ = some (.int .i64 h.m) ∧ W.cell? ⟨w.heap.size, 10, none⟩ = some (.int .i64 h.b) ∧ W.cell? ⟨w.heap.size, 12, none⟩ = some (.int .i64 data.length) := fun W hW => by
    have hb := hW.heap HB1.out
    exact ⟨by rw [blk_cell hb]; rfl, by rw [blk_cell hb]; rfl, by rw [blk_cell hb]; rfl, by rw [blk_cell hb]; rfl⟩
  have HCK := Lib.hid hck; clear hck
  go_upto_region 9 with (first | ((with_reducible show wpList _ _ _ ({ dst := some 27, op := .load 94 (.tmp 2), type := _, pos := _, after := _, guard := none } :: _) _ _); go_loud (refine wpList_load_row rfl 94 (.tmp 2) rfl _ rfl _ _ _ _ HB1.out Try.underlying94 rfl (by kernel_rfl) ?_)) | (go_at_call 67; (with_reducible refine (HCHK.out _).mono ?_); rintro e w2 ⟨rfl, hE2⟩; obtain ⟨hk8, hk9, hk10, hk12⟩ := HCK.out _ hE2) | (go_at_call 68; (with_reducible refine (HNEW.out _).mono ?_); rintro e w3 ⟨gc, rfl, hcd, hE3⟩; have HE3 := Lib.hid (hE2.tr hE3); have HCD := Lib.hid hcd; clear hE2 hE3 hcd hk8 hk9 hk10 hk12; obtain ⟨hk8, hk9, hk10, hk12⟩ := HCK.out _ HE3.out) | (go_at_call 69; (with_reducible refine (HSIZ.out _).mono ?_); rintro e w4 ⟨lv, rfl, hl4, hE4⟩; obtain ⟨LA, lc, rfl, hl4a, hl4b, _⟩ := hl4.form; have HE4 := Lib.hid (HE3.out.tr hE4); have HL := Lib.hid hl4; have HCD4 := Lib.hid (HCD.out.ext hE4); clear hl4 hE4 HCD hk8 hk9 hk10 hk12; obtain ⟨hk8, hk9, hk10, hk12⟩ := HCK.out _ HE4.out))
  obtain ⟨N, hN⟩ : ∃ N, N = h.k + h.m := ⟨_, rfl⟩
  have hN1 : N ≤ 255 := by rw [hN]; exact hsh.km
  have hN2 : 1 ≤ N := by rw [hN]; have := hsh.m1; omega
  have hNi : (h.k : Int) + (h.m : Int) = (N : Int) := by rw [hN]; omega
  have HN := Lib.hid hN; clear hN
  have qN : IntKind.i64.wrap (N : Int) = (N : Int) := IntWalk.i64_in _ (by omega)
  go_upto_region 10 with (first | ((with_reducible show wpList _ _ _ ({ dst := some 60, op := .makeSlice 85 (.tmp 59) (.tmp 59), type := _, pos := _, after := _, guard := none } :: _) _ _); refine wpList_make_rows rfl (.tmp 59) (.tmp 59) 85 96 _ 17 104 rfl Try.underlying85 infoSh N rfl rfl rfl rfl (by omega) (by unfold maxLen; omega) ?_))
  have hob := OutB.made w4 N zSh rfl
  have hE5 := (Ext.refl w4).al (.cells (madeCells zSh (N * 17)) 96)
  have HOB := Lib.hid hob; clear hob
  have HE5 := Lib.hid hE5; clear hE5
  clear hk8 hk9 hk10 hk12
  generalize hw5 : w4.alloc (.cells (madeCells _ (N * 17)) 96) = w5
  rw [show w4.alloc (.cells (madeCells zSh (N * 17)) 96) = w5 from hw5] at HOB HE5
  clear hw5 qN hNi
  have HG0 := Lib.hid (blk_lt HB1.out)
  have hgO : w1.heap.size ≤ w4.heap.size := HE4.out.size
  have hgO4 := Nat.le_refl w4.heap.size
  generalize hgo : w4.heap.size = gO at HOB hgO ⊢
  rw [hgo] at hgO4
  have HGO := Lib.hid (show w4.heap.size ≤ gO by rw [hgo]; exact Nat.le_refl _)
  have HGOw := Lib.hid (Nat.le_trans HE1.out.size hgO)
  clear hgo hgO4
  go_wp2_with fail
  go_loopw [63] (fun i wr => ∃ (k : Nat), k ≤ N ∧ i = .int .i64 k ∧ Hid (OutB wr gO N (headsTo h data.length k)) ∧ Hid (Ext w4 wr)) (fun i _ => N - (intOf i).toNat)
  case atStart => exact ⟨0, by omega, rfl, HOB, HE5⟩
  case round =>
    clear HOB HE5
    obtain ⟨k, hk, rfl, HO, HE⟩ := hrel
    by_cases hlt : k < N
    · obtain ⟨_, cs, hcs, hsz, _⟩ := id HO.out
      have HCS := Lib.hid hcs; clear hcs
      have HSZ := Lib.hid hsz; clear hsz
      have HBH := Lib.hid ((HE4.out.tr HE.out).heap HB1.out)
      go_upto_region 14 with (first | ((with_reducible show wpList _ _ _ ({ dst := some 68, op := .load 94 (.tmp 2), type := _, pos := _, after := _, guard := none } :: _) _ _); refine wpList_load_row rfl 94 (.tmp 2) rfl _ rfl _ _ _ _ HBH.out Try.underlying94 rfl (by kernel_rfl) ?_) | ((with_reducible show wpList _ _ _ ({ dst := none, op := .store 94 (.tmp 70) (.tmp 68), type := _, pos := _, after := _, guard := none } :: _) _ _); (refine wpList_store_at rfl rfl 94 (.tmp 70) (.tmp 68) rfl gO (k * 17) (h.of data.length 0).cells.toArray rfl rfl 96 cs _ HCS.out (by kernel_rfl) (by have := HSZ.out; show k * 17 + 16 ≤ cs.size; omega) (by simp [Hd.cells, Hd.of, Value.oneCell']) rfl ?_; intro w6 hb6 hg6)))
      have hO6 := HO.out.put hlt (h.of data.length 0).cells rfl HCS.out hb6
      rw [headsTo_put] at hO6
      have hE6 := HE.out.gr hg6 (fun q hq => by injection hq with hq; exact hq ▸ HGO.out)
      obtain ⟨_, cs2, hcs2, hsz2, _⟩ := id hO6
      have HO6 := Lib.hid hO6; clear hO6
      have HE6 := Lib.hid hE6; clear hE6
      clear hb6 hg6 HCS HSZ
      have HCS := Lib.hid hcs2; clear hcs2
      have HSZ := Lib.hid hsz2; clear hsz2
      go_wp2_with (first | ((with_reducible show wpList _ _ _ ({ dst := none, op := .store 3 (.tmp 76) (.tmp 73), type := _, pos := _, after := _, guard := none } :: _) _ _); (refine wpList_store_cell' rfl rfl 3 (.tmp 76) (.tmp 73) rfl gO (k * 17 + 13) (.int .i64 k) rfl rfl rfl 96 cs2 HCS.out (by kernel_rfl) (by have := HSZ.out; omega) ?_; intro w7 hw7; have HW7 := Lib.hid hw7; clear hw7)))
      refine ⟨⟨k + 1, by omega, by go_num, ?_, ?_⟩, by simp [intOf]; omega⟩
      · have h7 := HO6.out.set hlt (j := 13) (by omega) (.int .i64 k)
        rw [headsTo_set, ← HW7.out] at h7
        exact Lib.hid h7
      · rw [HW7.out]
        exact Lib.hid (HE6.out.set HGO.out _)
    · obtain rfl : N = k := by omega
      have HR6 := Lib.hid (HR.out.ext (HE1.out.tr (HE4.out.tr HE.out)))
      have HL6 := Lib.hid ((HL.out.ext HE.out).lower (Nat.zero_le _))
      have HCD6 := Lib.hid (HCD4.out.ext HE.out)
      have HBH6 := Lib.hid ((HE4.out.tr HE.out).heap HB1.out)
      have HE6 := Lib.hid (HE1.out.tr (HE4.out.tr HE.out))
      obtain ⟨hk8, _, _, _⟩ := HCK.out _ (HE4.out.tr HE.out)
      have HO6 := HO
      clear HO HR HL HCD4 HB1 HE4 HE1 HCK HE HG0 HGO
      obtain ⟨lens, hlens⟩ : ∃ lens, lens = lensL h.k h.b data.length := ⟨_, rfl⟩
      have hll : lens.length ≤ 4096 := by rw [hlens, lensL_length]; exact hst
      have hlb : ∀ x ∈ lens, x ≤ 65536 := by rw [hlens]; exact fun x hx => Nat.le_trans (lensL_le h.k h.b data.length (Nat.le_trans hsh.m1 hsh.m2) hsh.b1 x hx) hsh.b2
      rw [← hlens] at HL6 hS hS1 hl4a ⊢
      have HLB := Lib.hid hlb; clear hlb
      have HLS := Lib.hid hlens; clear hlens
      have hk1 : 1 ≤ h.k := Nat.le_trans hsh.m1 hsh.m2
      have hk2 : h.k ≤ 255 := hsh.k2
      have HSH := Lib.hid hsh; clear hsh
      have HS := Lib.hid hS; clear hS
      have HS1 := Lib.hid hS1; clear hS1
      generalize hK : h.k = K at *
      have HK := Lib.hid hK; clear hK
      unfold maxLen at hl4b
      clear hst hix k1 k2
      obtain ⟨W6, hW6⟩ : ∃ W6, W6 = wr := ⟨_, rfl⟩
      subst hW6
      clear HCHK HNEW HSIZ HE3 hgO
      go_upto_region 17 with (first | ((with_reducible show wpList _ _ _ ({ dst := some 81, op := .makeSlice 63 (.tmp 80) (.tmp 80), type := _, pos := _, after := _, guard := none } :: _) _ _); refine wpList_make_S (enc := idV) (.slice none 0 0) rfl rfl (.tmp 80) (.tmp 80) 63 22 24 W6.heap.size rfl Try.underlying63 infoRB K rfl rfl rfl rfl (by omega) (by unfold maxLen; omega) (Nat.le_refl _) ?_; intro w8 ho8 hE8))
      have HR0 := Lib.hid (RowsW.new (T1 := 5) _ _ ho8)
      have HE8 := Lib.hid hE8
      clear ho8 hE8
      go_wp2_with fail
      go_loopw [1, 84] (fun u i wr => ∃ (s : Nat) (A' : Option Addr) (dl c' : Nat) (d : List UInt8) (vs : List Value) (rs : List (List UInt8)), s ≤ lens.length ∧ i = .int .i64 s ∧ u = .slice A' dl c' ∧ dl ≤ c' ∧ c' ≤ 9223372036854775807 ∧ Hid (dl = d.length) ∧ Hid ((d, rs) = dealTo K lens data s) ∧ Hid (RdS vB W6 A' d) ∧ Hid (RowsW 22 5 wr W6.heap.size (.slice (some ⟨W6.heap.size, 0, none⟩) K K) vs rs) ∧ Hid (Ext W6 wr)) (fun _ i _ => lens.length - (intOf i).toNat)
      case atStart => exact ⟨0, A, data.length, c, data, _, _, by omega, rfl, rfl, by omega, by omega, Lib.hid rfl, Lib.hid rfl, HR6, HR0, HE8⟩
      case round =>
        clear HR0 HE8 HR6
        obtain ⟨s, A', dl, c', d, vs, rs, hs, rfl, rfl, hdc, hcm', HDL, HD, HRD, HRW, HE⟩ := hrel
        have HRL := Lib.hid (show rs.length = K by have := congrArg (fun p => p.2.length) HD.out; simpa [dealTo_len] using this)
        by_cases hlt2 : s < lens.length
        · obtain ⟨bL, oL, eL, hbL, hcL⟩ := HL6.out.rd.at_ hlt2
          subst eL
          have hcL' := HE.out.cl hcL
          unfold vN at hcL'
          have hn := HLB.out _ (List.getElem_mem hlt2)
          have HDN := Lib.hid (show lens.getD s 0 = lens[s] by rw [List.getD_eq_getElem?_getD, List.getElem?_eq_getElem hlt2, Option.getD_some])
          generalize lens[s] = n at hcL' hn HDN
          have hk8' := HE.out.cl hk8
          clear hcL
          have hrs : ∀ x ∈ rs, x.length ≤ 256 := fun x hx => by
            have h1 := dealTo_rows K lens data s hs x (by rw [← HD.out]; exact hx)
            have h2 := sumTo_le lens s hs
            have h3 := HS.out
            omega
          have HRS := Lib.hid hrs; clear hrs
          have hdl := HDL.out
          subst hdl
          go_wp2_with fail
          clear hk8' hcL'
          refine split_deal K n W6.heap.size d rs W6 wr A' c' vs _ _ _ _ _ _ _ _ _ _ _ _ _ _ _ _ _ _ _ _ _ _ _ _ _ _ _ _ _ _ _ _ _ _ _ _ _ _ _ _ _ _ _ _ _ _ _ _ _ _ _ _ _ _ _ _ _ _ _ _ _ _ _ _ _ _ _ _ _ _ _ _ _ _ _ _ _ _ _ _ _ _ _ _ _ _ _ _ _ _ _ _ _ _ _ _ _ _ _ _ _ _ _ _ _ _ _ _ _ _ _ _ _ _ _ _ _ _ _ _ _ _ _ _ _ _ _ _ _ _ _ _ _ _ _ _ _ _ _ _ _ _ _ _ _ _ _ _ _ _ _ _ _ _ _ _ _ _ _ _ hk2 hn HRL.out HRS.out (Nat.le_refl _) hdc hcm' HRD HRW HE ?_
          intro A1 dl c1 vs' w' u16 u17 u92 u93 u94 u95 u96 u97 u98 u99 u100 u101 u102 u103 u104 u105 u106 u107 u108 u109 u110 u111 u112 u113 u114 u115 hdl hdc1 hc1 HRD1 HRW1 HE1
          have HDL1 := Lib.hid hdl; clear hdl
          clear HRD HRW HE hdc hcm'
          go_wp2_with fail
          refine ⟨⟨s + 1, A1, dl, c1, _, _, _, by omega, by go_num, rfl, hdc1, hc1, HDL1, Lib.hid ?_, HRD1, HRW1, HE1⟩, by simp [intOf]; omega⟩
          rw [dealTo, ← HD.out, HDN.out]
        · obtain rfl : s = lens.length := by omega
          have hdsnd : (dealTo K lens data lens.length).2 = rs := by rw [← HD.out]
          obtain ⟨S, hSe⟩ : ∃ S, S = sumTo lens lens.length := ⟨_, rfl⟩
          have hSv : S = lens.foldl (· + ·) 0 := by rw [hSe]; simp [sumTo]
          have hS1 : 1 ≤ S := by rw [hSv]; exact HS1.out
          have hS2 : S < 256 := by rw [hSv]; exact HS.out
          have hrows : ∀ x ∈ rs, x.length = S := fun x hx => by rw [hSe]; exact dealTo_rows K lens data lens.length (Nat.le_refl _) x (by rw [hdsnd]; exact hx)
          have hNK : K + h.m ≤ 255 := by rw [← HN.out]; exact hN1
          have henc := cencode_c gc K (K + h.m) (codeL K h.m) rs _ S wr (HCD6.out.ext HE.out) (OwnR.toS HRW.out.toR) (codeL_rows K h.m) hrows HRL.out hS1 hS2 (by rw [codeL_len]; exact hNK) (by rw [codeL_len]; omega) hk1 hk2
          have HENC := Lib.hid henc; clear henc
          have HSE := Lib.hid hSe
          have HOr := Lib.hid (HO6.out.ext HE.out)
          have HLr := Lib.hid (HL6.out.ext HE.out)
          have HEr := Lib.hid (HE6.out.tr HE.out)
          have HB0 := Lib.hid (show w.heap.size ≤ wr.heap.size from (HE6.out.tr HE.out).size)
          clear HO6 HL6 HCD6 HE6 hk8 HRD HRW HE hrows hSe hSv HBH6 HS HS1 hNK
          go_upto_region 29 with (first | (go_at_call 70; (with_reducible refine HENC.out.mono ?_); rintro e w7 ⟨V7, vs7, rfl, hR7, hE7⟩))
          obtain ⟨A7, c7, rfl, hv7a, hv7b, _⟩ := hR7.own.form
          have hv7l : vs7.length = N := by rw [hR7.len, prodL_len, codeL_len, ← HN.out]
          rw [hv7l] at hR7 hv7a ⊢
          obtain ⟨gW, rfl, hgW1, hgW2, hx1, hx2, hx3⟩ := hR7.own.at_ (k := 0) (by rw [hv7l]; exact hN2)
          clear hx1 hx2 hx3
          obtain ⟨word, hword⟩ : ∃ word, word = prodL (codeL K h.m) rs S := ⟨_, rfl⟩
          rw [← hword] at hR7
          have hwl : word.length = N := by rw [← hR7.len, hv7l]
          have hwr : ∀ x ∈ word, x.length = S := by
            rw [hword]
            intro x hx
            obtain ⟨r, _, rfl⟩ := List.mem_map.1 hx
            exact prodTo_len r rs S (fun y hy => by rw [HSE.out]; exact dealTo_rows K lens data lens.length (Nat.le_refl _) y (by rw [hdsnd]; exact hy)) rs.length (Nat.le_refl _)
          have HWR := Lib.hid hwr; clear hwr
          have HWL := Lib.hid hwl; clear hwl
          have HWD := Lib.hid hword; clear hword
          have HV7 := Lib.hid hv7l; clear hv7l
          have HR7 := Lib.hid hR7; clear hR7
          have HO7 := Lib.hid (HOr.out.ext hE7)
          have HL7 := Lib.hid (HLr.out.ext hE7)
          have HE7 := Lib.hid (HEr.out.tr hE7)
          have hgO7 : gO < w7.heap.size := HO7.out.lt
          have HGO7 := Lib.hid hgO7; clear hgO7
          have HGW7 := Lib.hid hgW2; clear hgW2
          have HGW1 := Lib.hid (Nat.le_trans HB0.out hgW1); clear hgW1
          clear HOr HLr HEr hE7 HENC
          have HDS := Lib.hid hdsnd; clear hdsnd
          unfold maxLen at hv7b
          go_wp2_with fail
          have HO0 := Lib.hid (HO7.out.congr (vals' := finTo h data.length (fun _ => .slice none 0 0) 0) (fun _ => rfl) (fun q hq => by unfold headsTo finTo; rw [if_pos hq, if_neg (by omega)]))
          obtain ⟨_, csO, hbO, _, _⟩ := id HO7.out
          obtain ⟨csW, hbW⟩ := own_blk HR7.out.own (show (Value.slice (some ⟨gW, 0, none⟩) N c7).ownBlock = some gW from rfl)
          have HBO := Lib.hid hbO; clear hbO
          have HBW := Lib.hid hbW; clear hbW
          have hne : gO ≠ gW := fun e => by
            have h1 := HBO.out
            rw [e, HBW.out] at h1
            injection h1 with h1
            injection h1 with _ h1
            exact absurd h1 (by decide)
          have HNE := Lib.hid hne; clear hne
          clear HO7
          go_loopw [125] (fun ii wr => ∃ (i : Nat) (us : List Value) (bvs : Nat → Value), i ≤ N ∧ ii = .int .i64 i ∧ Hid (us.length = N) ∧ Hid (∀ q, i ≤ q → q < N → us[q]? = vs7[q]?) ∧ Hid (OwnS idV 22 wr w.heap.size (.slice (some ⟨gW, 0, none⟩) N c7) us) ∧ Hid (OutB wr gO N (finTo h data.length bvs i)) ∧ Hid (∀ q, q < i → OwnR R8 22 wr w7.heap.size (bvs q) (chunksL lens (word.getD q []) lens.length)) ∧ Hid (Chg [gO, gW] w7 wr)) (fun ii _ => N - (intOf ii).toNat)
          case atStart => exact ⟨0, vs7, fun _ => .slice none 0 0, by omega, rfl, HV7, Lib.hid (fun _ _ _ => rfl), Lib.hid (HR7.out.own.lower HB0.out), HO0, Lib.hid (fun q hq => absurd hq (by omega)), Lib.hid (Chg.of_ext (Ext.refl _) _)⟩
          case round =>
            clear HO0
            obtain ⟨i, us, bvs, hi, rfl, HUL, HUQ, HUO, HOB, HBV, HC⟩ := hrel
            by_cases hlt5 : i < N
            · have hi7 : i < vs7.length := by rw [HV7.out]; exact hlt5
              have hiw : i < word.length := by rw [HWL.out]; exact hlt5
              have hrow := HR7.out.rows i hi7 hiw
              obtain ⟨A0, c0, hvi, hc0a, hc0b, _⟩ := hrow.form
              have hxl : word[i].length = S := HWR.out _ (List.getElem_mem hiw)
              have hui : us.set i (.slice A0 word[i].length c0) = us := by
                apply List.ext_getElem?
                intro q
                rw [List.getElem?_set]
                split
                · rename_i e; subst e
                  rw [if_pos (by rw [HUL.out]; exact hlt5), HUQ.out i (Nat.le_refl _) hlt5, List.getElem?_eq_getElem hi7, hvi]
                · rfl
              unfold maxLen at hc0b
              have hCk : ∀ {w'}, Chg [gO, gW] wr w' → Chg [gO, gW] w7 w' := fun h => HC.out.tr h
              have HLq : Hid (∀ w', Chg [gO, gW] wr w' → RdS vN w' LA lens) := Lib.hid (fun w' hw => (HL7.out.chgT (hCk hw) HBO.out HBW.out (by decide) (by decide)).rd)
              have HXq : Hid (∀ w', Chg [gO, gW] wr w' → RdS vB w' A0 word[i]) := Lib.hid (fun w' hw => by have := hrow.chgT (hCk hw) HBO.out HBW.out (by decide) (by decide); rw [hvi] at this; exact this.rd)
              have HUO2 : Hid (OwnS idV 22 wr w.heap.size (.slice (some ⟨gW, 0, none⟩) N c7) (us.set i (.slice A0 word[i].length c0))) := Lib.hid (by rw [hui]; exact HUO.out)
              have HOB2 : Hid (OutB wr gO N (upd (finTo h data.length bvs i) i ((finTo h data.length bvs i i).set 16 (.slice none 0 0)))) := Lib.hid (by rw [finTo_same]; exact HOB.out)
              have hQ := HC.out.size
              go_wp2_with fail
              refine split_blocks N gO gW c7 i lc w.heap.size lens word[i] wr LA A0 c0 us (finTo h data.length bvs i) _ _ _ _ _ _ _ _ _ _ _ _ _ _ _ _ _ _ _ _ _ _ _ _ _ _ _ _ _ _ _ _ _ _ _ _ _ _ _ _ _ _ _ _ _ _ _ _ _ _ _ _ _ _ _ _ _ _ _ _ _ _ _ _ _ _ _ _ _ _ _ _ _ _ _ _ _ _ _ _ _ _ _ _ _ _ _ _ _ _ _ _ _ _ _ _ _ _ _ _ _ _ _ _ _ _ _ _ _ _ _ _ _ _ _ _ _ _ _ _ _ _ _ _ _ _ _ _ _ _ _ _ _ _ _ _ _ _ _ _ _ _ _ _ _ _ _ _ _ _ _ _ _ _ _ _ _ _ _ hlt5 hN1 hll hl4a (by omega) hv7a (by omega) (by rw [hxl, HSE.out]) (by omega) hc0a (by omega) (Nat.lt_of_lt_of_le HGO7.out hQ) (Nat.lt_of_lt_of_le HGW7.out hQ) HNE.out HUL.out HLq HXq HUO2 HOB2 ?_
              intro bv u w' u22 u131 u132 u133 u134 u135 u136 u137 u138 u139 u140 u141 u142 u143 u144 u145 u146 u147 u148 u149 u150 u151 u152 u153 u154 u155 u156 u157 u158 u159 u160 u161 z1 z2 z3 z4
              clear HLq HXq HUO2 HOB2 hui hvi hrow
              go_wp2_with fail
              refine ⟨⟨i + 1, us.set i u, upd bvs i bv, by omega, by go_num, Lib.hid (by rw [List.length_set]; exact HUL.out), Lib.hid (fun q h1 h2 => ?_), z1, Lib.hid ?_, Lib.hid (fun q hq => ?_), Lib.hid (HC.out.tr z4.out)⟩, by simp [intOf]; omega⟩
              · rw [List.getElem?_set_ne (by omega)]; exact HUQ.out q (by omega) h2
              · have := z2.out
                rwa [finTo_upd] at this
              · by_cases e : q = i
                · subst e
                  have : word.getD q [] = word[q] := by rw [List.getD_eq_getElem?_getD, List.getElem?_eq_getElem hiw, Option.getD_some]
                  rw [this]
                  simp only [upd, if_true]
                  exact z3.out.lower hQ
                · simp only [upd, if_neg e]
                  obtain ⟨csW', hbW'⟩ := own_blk HUO.out (show (Value.slice (some ⟨gW, 0, none⟩) N c7).ownBlock = some gW from rfl)
                  obtain ⟨_, csO', hbO', _, _⟩ := id HOB.out
                  exact (HBV.out q (by omega)).chg8 z4.out hbO' hbW' HGO7.out HGW7.out
            · obtain rfl : i = N := by omega
              go_wp2_with fail
              go_ret2
              refine ⟨gO, bvs, word, by rw [HWD.out, HSE.out, ← HDS.out, HLS.out]; unfold wordL; rw [HK.out], ?_, ⟨?_, ?_⟩, ?_⟩
              · rw [HK.out, ← HN.out]; rfl
              · rw [HK.out, ← HN.out]; exact HOB.out
              · rw [HK.out, ← HN.out]
                intro q hq
                have := (HBV.out q hq).lower (Nat.zero_le _)
                rwa [HLS.out] at this
              · exact ((Chg.of_ext HE7.out [gO, gW]).tr HC.out).ext (fun g hg => by
                  simp at hg
                  rcases hg with rfl | rfl
                  · exact HGOw.out
                  · exact HGW1.out)
end Go.Proofs.Ytmcgcfbdofpfdaa
