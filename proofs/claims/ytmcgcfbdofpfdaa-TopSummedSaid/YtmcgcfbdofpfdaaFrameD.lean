/- The walk of frame.Encode, where the head is good and the blocks are as long as it says. -/
import Derived.Test.YtmcgcfbdofpfdaaFrameC
import Derived.Test.YtmcgcfbdofpfdaaBase3
namespace Go.Proofs.Ytmcgcfbdofpfdaa
open Go.RowKit
/-- The bytes of blocks, each with its own sum, from the first to before number j. -/
def frTo (head : UInt32) (bl : List (List UInt8)) : Nat → List UInt8
  | 0 => []
  | j + 1 => frTo head bl j ++ (bl.getD j [] ++ le4 (ownW head j (bl.getD j [])))
def Hd.oneW (h : Hd) : UInt32 := sumW h.firstB
def Hd.headW (h : Hd) : UInt32 := moreW h.oneW h.key.data.toList
def fileB (h : Hd) (bl : List (List UInt8)) : List UInt8 :=
  h.firstB ++ le4 h.oneW ++ h.key.data.toList ++ le4 h.headW ++ frTo h.headW bl bl.length
def Hd.with_ (h : Hd) (v : Value) : Value := .agg (h.cells ++ [v]).toArray
theorem frTo_len (head : UInt32) (bl : List (List UInt8)) (hb : ∀ x ∈ bl, x.length ≤ 65536) (j : Nat) : (frTo head bl j).length ≤ j * 65540 := by
  induction j with
  | zero => simp [frTo]
  | succ j ih =>
    have hd : (bl.getD j []).length ≤ 65536 := by
      rw [List.getD_eq_getElem?_getD]
      cases h : bl[j]? with
      | none => simp
      | some x => simpa using hb x (List.mem_of_getElem? h)
    simp only [frTo, List.length_append, le4_len]
    rw [Nat.succ_mul]; omega
theorem Hd.firstB_len (h : Hd) : h.firstB.length = 32 := rfl
set_option maxRecDepth 20000 in
set_option maxHeartbeats 4000000 in
theorem encode_c (h : Hd) (vb : Value) (bl : List (List UInt8)) (w : World) (hok : h.Ok) (hb : SlR (SlV vB) w vb bl) (hl : bl.map List.length = lensL h.k h.b h.size) :
    Calls Try.prog 51 #[h.with_ vb] w fun e w' => ∃ v, e = .returned (.tuple #[v, .int .i64 0]) ∧ OwnS vB 5 w' w.heap.size v (fileB h bl) ∧ Ext w w' := by
  have hck := fun w => check_c h w hok
  have hle := fun w => length_c h w hok
  have hfi := fun w => first_c h w hok
  have hfl := h.firstB_len
  have hone : Hid (h.oneW = sumW h.firstB) := Lib.hid rfl
  have hhead : Hid (h.headW = moreW h.oneW h.key.data.toList) := Lib.hid rfl
  have hfile : Hid (fileB h bl = h.firstB ++ le4 h.oneW ++ h.key.data.toList ++ le4 h.headW ++ frTo h.headW bl bl.length) := Lib.hid rfl
  have hlen : Hid (h.len = 40 + h.key.size + sumLens (lensL h.k h.b h.size)) := Lib.hid rfl
  have hll := lensL_length h.k h.b h.size
  have hlb := lensL_le h.k h.b h.size (Nat.le_trans hok.sh.m1 hok.sh.m2) hok.sh.b1
  generalize hF : fileB h bl = F at hfile ⊢
  clear hF
  generalize hxh : h.headW = xh at hhead hfile
  generalize hxo : h.oneW = xo at hone hhead hfile
  generalize hxf : h.firstB = fb at hone hfile hfi hfl
  generalize hxl : h.len = ln at hlen hle
  clear hxh hxo hxf hxl
  obtain ⟨s0, s1, s2, s3, s4, s5, s6, s7, k, m, b, key, size, index, epoch, count⟩ := h
  obtain ⟨hsh, k1, k2, hz, hst, hix, he1, he2, hc1, hc2⟩ := hok
  simp only [Hd.val, Hd.cells] at hck hle hfi
  simp only at hsh k1 k2 hz hst hl hlen hll hlb hhead hfile
  have hlr := fun w => lengths_c k m b size w (Nat.le_trans hsh.m1 hsh.m2) hsh.k2 hsh.b1 hsh.b2 hz
  simp only [shV] at hlr
  have hln : bl.length = stripes k b size := by rw [← hll, ← hl, List.length_map]
  have hbn : bl.length ≤ 4096 := by omega
  have hbb : ∀ x ∈ bl, x.length ≤ 65536 := fun x hx => Nat.le_trans (hlb _ (by rw [← hl]; exact List.mem_map_of_mem hx)) hsh.b2
  have hls := sumLens_le (lensL k b size) 65536 (fun x hx => Nat.le_trans (hlb x hx) hsh.b2)
  have hln2 : ln ≤ 300000000 := by
    have e : (lensL k b size).length * 65540 ≤ 4096 * 65540 := Nat.mul_le_mul_right _ (by omega)
    have := hlen.out
    omega
  rw [← hl] at hlr
  generalize hgl : bl.map List.length = gl at hlr
  have HGL := Lib.hid hgl; clear hgl
  have hgn : gl.length = bl.length := by rw [← HGL.out, List.length_map]
  have HCK := Lib.hid hck; clear hck
  have HLE := Lib.hid hle; clear hle
  have HFI := Lib.hid hfi; clear hfi
  have HLR := Lib.hid hlr; clear hlr
  have HBB := Lib.hid hbb; clear hbb
  clear hix he1 he2 hc1 hc2 hlb hll hl hls hln hlen hsh hz hst
  obtain ⟨AB, cB, rfl, hBc, hBm, hBr⟩ := hb
  unfold maxLen at hBm
  have HBR := Lib.hid hBr; clear hBr
  simp only [Hd.with_, Hd.cells, List.cons_append, List.nil_append]
  obtain ⟨W0, hw0⟩ : ∃ W0, W0 = w.alloc (Obj.cells #[.int .u8 (b8 s0), .int .u8 (b8 s1), .int .u8 (b8 s2), .int .u8 (b8 s3), .int .u8 (b8 s4), .int .u8 (b8 s5), .int .u8 (b8 s6), .int .u8 (b8 s7), .int .i64 (k : Int), .int .i64 (m : Int), .int .i64 (b : Int), .string key, .int .i64 (size : Int), .int .i64 (index : Int), .int .i64 (epoch : Int), .int .i64 (count : Int), .slice AB bl.length cB] 96) := ⟨_, rfl⟩
  have hg0 := heap_alloc_new w (Obj.cells #[.int .u8 (b8 s0), .int .u8 (b8 s1), .int .u8 (b8 s2), .int .u8 (b8 s3), .int .u8 (b8 s4), .int .u8 (b8 s5), .int .u8 (b8 s6), .int .u8 (b8 s7), .int .i64 (k : Int), .int .i64 (m : Int), .int .i64 (b : Int), .string key, .int .i64 (size : Int), .int .i64 (index : Int), .int .i64 (epoch : Int), .int .i64 (count : Int), .slice AB bl.length cB] 96)
  rw [← hw0] at hg0
  have hs0 : w.heap.size < W0.heap.size := blk_lt hg0
  have HE0 : Hid (Ext w W0) := Lib.hid (by rw [hw0]; exact (Ext.refl w).al _)
  have HG := Lib.hid hg0; clear hg0
  have HW0 := Lib.hid hw0; clear hw0
  go_enter Try.func51, Try.ntmps51
  go_wp2_with (first | (go_at_call 67; with_reducible refine (HCK.out _).mono ?_; rintro e w1 ⟨rfl, hE1⟩; rw [← HW0.out] at hE1; have hcc := fun i => blk_cell (hE1.heap HG.out) i) | (go_at_call 72; with_reducible refine (HLR.out _).mono ?_; rintro e w2 ⟨v2, rfl, ho2, hE2⟩; obtain ⟨AL, cL, rfl, hLc, hLm, hLr⟩ := ho2.form; clear hcc; have HE2 := Lib.hid (hE1.tr hE2); have HLr := Lib.hid hLr; clear hE2 hE1 hLr ho2; have hcc := fun i => blk_cell (HE2.out.heap HG.out) i))

  unfold maxLen at hLm
  go_loop [35] (fun i => ∃ j : Nat, j ≤ bl.length ∧ i = .int .i64 j) (fun i => bl.length - (intOf i).toNat)
  case atStart => exact ⟨0, by omega, rfl⟩
  case round =>
    obtain ⟨j, hj, rfl⟩ := hrel
    by_cases hlt : j < bl.length
    · obtain ⟨b1, o1, rfl, hbl1, hcell1⟩ := HLr.out.at_ (k := j) (by omega)
      obtain ⟨b2, o2, v2, rfl, hbl2, hcell2, hv2⟩ := HBR.out.at_ hlt
      obtain ⟨A3, c3, rfl, hc3, hm3, hr3⟩ := hv2
      have hcell3 := ((HE0.out.tr HE2.out).cl hcell2)
      have hx := HBB.out bl[j] (List.getElem_mem hlt)
      have hg : gl[j] = bl[j].length := by simp [← HGL.out]
      rw [hg] at hcell1
      unfold vN at hcell1
      clear hcell2 hr3 hg
      generalize hxx : bl[j].length = x at *
      clear hxx
      unfold maxLen at hm3
      go_wp2
      refine ⟨⟨j + 1, by omega, by go_num⟩, by simp [intOf]; omega⟩
    · obtain rfl : j = bl.length := by omega
      have hsum : ∀ v w, SlV vB w v fb → Calls Try.prog 6 #[v] w fun e w' => e = .returned (.int .u32 (w32 xo)) ∧ Ext w w' := fun v w hv => by rw [hone.out]; exact sum_c v fb w hv
      have hmore : ∀ v w, SlV vB w v key.data.toList → Calls Try.prog 9 #[.int .u32 (w32 xo), v] w fun e w' => e = .returned (.int .u32 (w32 xh)) ∧ Ext w w' := fun v w hv => by rw [hhead.out]; exact more_c xo v _ w hv
      have hkl : key.data.toList.length = key.size := Array.length_toList
      have HSUM := Lib.hid hsum; clear hsum
      have HMORE := Lib.hid hmore; clear hmore
      generalize hkk : key.data.toList = kb at hfile HMORE hkl
      have HKK := Lib.hid hkk; clear hkk
      go_wp2_with (first | (go_at_call 73; with_reducible refine (HFI.out _).mono ?_; rintro e w3 ⟨v3, rfl, ho3, hE3⟩; obtain ⟨A3, c3, rfl, h3c, h3m, h3r⟩ := ho3.form; clear h3c h3m h3r; rw [hfl] at ho3; have HO3 := Lib.hid (ho3.lower (b := W0.heap.size) HE2.out.size); have HE3 := Lib.hid (HE2.out.tr hE3); clear hcc ho3 hE3; have hcc := fun i => blk_cell (HE3.out.heap HG.out) i) | (go_at_call 6; with_reducible refine (HSUM.out _ _ HO3.out.sl).mono ?_; rintro e w4 ⟨rfl, hE4⟩; have HO4 := Lib.hid (HO3.out.ext hE4); have HE4 := Lib.hid (HE3.out.tr hE4); clear hcc hE4; have hcc := fun i => blk_cell (HE4.out.heap HG.out) i) | (refine wpList_convert_S rfl 9 22 5 (.tmp 57) rfl Try.underlying9 Try.underlying22 Try.underlying5 rfl (by simp [maxLen]; omega) ?_; intro c5 w5 hc5 hm5 hr5 hE5; rw [HKK.out] at hr5; have HS5 : Hid (SlV vB w5 (.slice (some ⟨w4.heap.size, 0, none⟩) key.size c5) kb) := Lib.hid ⟨_, _, by rw [hkl], by rw [hkl]; exact hc5, hm5, hr5⟩; have HO5 := Lib.hid (HO4.out.ext hE5); have HE5 := Lib.hid (HE4.out.tr hE5); clear hcc hE5 hr5; have hcc := fun i => blk_cell (HE5.out.heap HG.out) i) | (go_at_call 9; with_reducible refine (HMORE.out _ _ HS5.out).mono ?_; rintro e w6 ⟨rfl, hE6⟩; have HO6 := Lib.hid (HO5.out.ext hE6); have HE6 := Lib.hid (HE5.out.tr hE6); clear hcc hE6; have hcc := fun i => blk_cell (HE6.out.heap HG.out) i) | (go_at_call 74; with_reducible refine (HLE.out _).mono ?_; rintro e w7 ⟨rfl, hE7⟩; have HO7 := Lib.hid (HO6.out.ext hE7); have HE7 := Lib.hid (HE6.out.tr hE7); clear hcc hE7; have hcc := fun i => blk_cell (HE7.out.heap HG.out) i) | (at_make; refine wpList_make0_S (enc := vB) rfl (.const (.int .i64 0)) (.tmp 62) 22 5 _ 1 W0.heap.size rfl Try.underlying22 info8 (n := ln) rfl rfl rfl (by omega) (by simp [maxLen]; omega) HE7.out.size ?_; intro w8 ho8 hE8; have HO8 := Lib.hid ho8; have HO83 := Lib.hid (HO7.out.ext hE8); have HE8 := Lib.hid (HE7.out.tr hE8); clear hcc ho8 hE8; have hcc := fun i => blk_cell (HE8.out.heap HG.out) i) | (at_builtin; refine wpList_append_S (enc := vB) (ys := fb) (fun _ _ => rfl) rfl (.tmp 64) (.tmp 65) 22 5 _ 1 W0.heap.size rfl Try.underlying22 info8 rfl rfl HO8.out rfl hfl.symm HO83.out.rd (by simp [maxLen]; omega) (by simp; omega) HE8.out.size ?_; intro v9 w9 ho9 hg9 _; have HO9 := Lib.hid ho9; have HE9 := Lib.hid (HE8.out.gr hg9 HO8.out.ge); clear hg9 ho9 hcc; have hcc := fun i => blk_cell (HE9.out.heap HG.out) i) | (go_at_call 75; with_reducible refine (put32_c xo _ _ _ (SlV.nil _) (Nat.zero_le _)).mono ?_; rintro e w10 ⟨v10, rfl, ho10, hE10⟩; rw [List.nil_append] at ho10; obtain ⟨A10, c10, rfl, h10c, h10m, h10r⟩ := ho10.form; have HR10 := Lib.hid h10r; have HO10 := Lib.hid (HO9.out.ext hE10); have HE10 := Lib.hid (HE9.out.tr hE10); clear ho10 hE10 h10c h10m h10r hcc; have hcc := fun i => blk_cell (HE10.out.heap HG.out) i) | (at_builtin; refine wpList_append_S (enc := vB) (ys := le4 xo) (fun _ _ => rfl) rfl (.tmp 67) (.tmp 69) 22 5 _ 1 W0.heap.size rfl Try.underlying22 info8 rfl (v := v9) rfl HO10.out rfl rfl HR10.out (by simp [maxLen, le4_len, hfl]) (by simp [le4_len, hfl]) HE10.out.size ?_; intro v11 w11 ho11 hg11 _; have HO11 := Lib.hid ho11; have HE11 := Lib.hid (HE10.out.gr hg11 HO10.out.ge); clear hg11 ho11 hcc; have hcc := fun i => blk_cell (HE11.out.heap HG.out) i) | (at_builtin; refine wpList_append_str_S rfl (.tmp 71) (.tmp 74) 22 9 5 W0.heap.size rfl Try.underlying22 Try.underlying9 info8 (v := v11) rfl HO11.out (s := key) rfl (by simp [le4_len, hfl]; omega) HE11.out.size ?_; intro v12 w12 ho12 hg12; rw [HKK.out] at ho12; have HO12 := Lib.hid ho12; have HE12 := Lib.hid (HE11.out.gr hg12 HO11.out.ge); clear hg12 ho12 hcc; have hcc := fun i => blk_cell (HE12.out.heap HG.out) i) | (go_at_call 75; with_reducible refine (put32_c xh _ _ _ (SlV.nil _) (Nat.zero_le _)).mono ?_; rintro e w13 ⟨v13, rfl, ho13, hE13⟩; rw [List.nil_append] at ho13; obtain ⟨A13, c13, rfl, h13c, h13m, h13r⟩ := ho13.form; have HR13 := Lib.hid h13r; have HO13 := Lib.hid (HO12.out.ext hE13); have HE13 := Lib.hid (HE12.out.tr hE13); clear ho13 hE13 h13c h13m h13r hcc; have hcc := fun i => blk_cell (HE13.out.heap HG.out) i) | (at_builtin; refine wpList_append_S (enc := vB) (ys := le4 xh) (fun _ _ => rfl) rfl (.tmp 76) (.tmp 78) 22 5 _ 1 W0.heap.size rfl Try.underlying22 info8 rfl (v := v12) rfl HO13.out rfl rfl HR13.out (by simp [maxLen, le4_len, hfl]; omega) (by simp [le4_len, hfl]; omega) HE13.out.size ?_; intro v14 w14 ho14 hg14 _; have HO14 := Lib.hid ho14; have HE14 := Lib.hid (HE13.out.gr hg14 HO13.out.ge); clear hg14 ho14 hcc; have hcc := fun i => blk_cell (HE14.out.heap HG.out) i))
      clear hcc HO3 HE3 HO4 HE4 HS5 HO5 HE5 HO6 HE6 HO7 HE7 HO8 HO83 HE8 HO9 HE9 HO10 HE10 HR10 HO11 HE11 HO12 HE12 HO13 HE13 HR13 HG HW0 HCK HLE HFI HLR HE2 HLr HSUM HMORE HKK hone hhead
      have ho14 : OwnS vB 5 w14 W0.heap.size v14 (fb ++ le4 xo ++ kb ++ le4 xh) := by simpa using HO14.out
      clear HO14
      have HO14 := Lib.hid ho14; clear ho14
      have hP : (fb ++ le4 xo ++ kb ++ le4 xh).length ≤ 300 := by simp [le4_len]; omega
      generalize hPP : fb ++ le4 xo ++ kb ++ le4 xh = P at hfile HO14 hP
      have hfr := frTo_len xh bl HBB.out
      have HFR := Lib.hid hfr; clear hfr hPP
      go_loopw [11, 83] (fun v i wi => ∃ (j : Nat) (u : Value), j ≤ bl.length ∧ i = .int .i64 j ∧ v = u ∧ Hid (OwnS vB 5 wi W0.heap.size u (P ++ frTo xh bl j)) ∧ Hid (Ext W0 wi)) (fun _ i _ => bl.length - (intOf i).toNat)
      case atStart => exact ⟨0, _, by omega, rfl, rfl, by simpa [frTo] using HO14, HE14⟩
      case round =>
        clear HO14 HE14
        obtain ⟨j, u, hj, rfl, rfl, HO, HE⟩ := hrel
        by_cases hlt : j < bl.length
        · obtain ⟨b2, o2, v2, rfl, hbl2, hcell2, hv2⟩ := HBR.out.at_ hlt
          have hx := HBB.out bl[j] (List.getElem_mem hlt)
          have hcell := ((HE0.out.tr HE.out).cl hcell2)
          have hlf : (frTo xh bl j).length ≤ 300000000 := by
            have h1 := HFR.out j
            omega
          have hst : frTo xh bl (j + 1) = frTo xh bl j ++ (bl[j] ++ le4 (ownW xh j bl[j])) := by
            simp [frTo, List.getD_eq_getElem?_getD, hlt]
          have HST := Lib.hid hst; clear hst
          have HV := Lib.hid hv2; clear hv2
          generalize hbj : bl[j] = bj at *
          obtain ⟨A3, c3, rfl, hc3, hm3, hr3⟩ := HV.out
          unfold maxLen at hm3
          have HR := Lib.hid (hr3.ext (HE0.out.tr HE.out))
          have HV3 := Lib.hid (HV.out.ext HE0.out); clear HV hr3 hcell2
          go_wp2_with (first | (at_builtin; refine wpList_append_S (enc := vB) (ys := bj) (fun _ _ => rfl) rfl (.tmp 88) (.tmp 89) 22 5 _ 1 W0.heap.size rfl Try.underlying22 info8 rfl (v := u11) rfl HO.out rfl rfl HR.out (by simp [maxLen]; omega) (by simp; omega) HE.out.size ?_; intro v15 w15 ho15 hg15 _; have HO15 := Lib.hid ho15; have HE15 := Lib.hid (HE.out.gr hg15 HO.out.ge); have HV15 := Lib.hid (HV3.out.ext HE15.out); clear hg15 ho15) | (go_at_call 76; with_reducible refine (own_c xh j _ bj _ (by omega) HV15.out (by omega)).mono ?_; rintro e w16 ⟨rfl, hE16⟩; have HO16 := Lib.hid (HO15.out.ext hE16); have HE16 := Lib.hid (HE15.out.tr hE16); clear hE16) | (go_at_call 75; with_reducible refine (put32_c (ownW xh j bj) _ _ _ (SlV.nil _) (Nat.zero_le _)).mono ?_; rintro e w17 ⟨v17, rfl, ho17, hE17⟩; rw [List.nil_append] at ho17; obtain ⟨A17, c17, rfl, h17c, h17m, h17r⟩ := ho17.form; have HR17 := Lib.hid h17r; have HO17 := Lib.hid (HO16.out.ext hE17); have HE17 := Lib.hid (HE16.out.tr hE17); clear ho17 hE17 h17c h17m h17r) | (at_builtin; refine wpList_append_S (enc := vB) (ys := le4 (ownW xh j bj)) (fun _ _ => rfl) rfl (.tmp 91) (.tmp 96) 22 5 _ 1 W0.heap.size rfl Try.underlying22 info8 rfl (v := v15) rfl HO17.out rfl rfl HR17.out (by simp [maxLen, le4_len]; omega) (by simp [le4_len]; omega) HE17.out.size ?_; intro v18 w18 ho18 hg18 _; have HE18 := Lib.hid (HE17.out.gr hg18 HO17.out.ge); clear hg18))
          refine ⟨⟨j + 1, v18, by omega, by go_num, rfl, ?_, HE18⟩, by simp [intOf]; omega⟩
          rw [HST.out, ← List.append_assoc, ← List.append_assoc]
          exact Lib.hid ho18
        · obtain rfl : j = bl.length := by omega
          go_wp2
          go_ret2
          rw [hfile.out]
          exact ⟨_, rfl, HO.out.lower (Nat.le_of_lt hs0), HE0.out.tr HE.out⟩
end Go.Proofs.Ytmcgcfbdofpfdaa
