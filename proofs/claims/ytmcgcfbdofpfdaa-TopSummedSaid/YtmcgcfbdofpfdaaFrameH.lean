/- The walk of frame.blocks where every block is whole. -/
import Derived.Test.YtmcgcfbdofpfdaaFrameG
import Derived.Deep.DeepCutAuto
namespace Go.Proofs.Ytmcgcfbdofpfdaa
open Go.RowKit
def frL (head : UInt32) : Nat → List (List UInt8) → List UInt8
  | _, [] => []
  | j, b :: bs => b ++ (le4 (ownW head j b) ++ frL head (j + 1) bs)
theorem frTo_frL (head : UInt32) (bl : List (List UInt8)) (n j : Nat) (h : j + n = bl.length) : frTo head bl (j + n) = frTo head bl j ++ frL head j (bl.drop j) := by
  induction n generalizing j with
  | zero =>
    obtain rfl : j = bl.length := by omega
    simp [frL]
  | succ n ih =>
    have hlt : j < bl.length := by omega
    rw [show j + (n + 1) = j + 1 + n from by omega, ih (j + 1) (by omega), List.drop_eq_getElem_cons hlt]
    simp [frTo, frL, List.getD_eq_getElem?_getD, hlt]
theorem frL_drop (head : UInt32) (bl : List (List UInt8)) (j : Nat) (h : j < bl.length) : frL head j (bl.drop j) = bl[j] ++ (le4 (ownW head j bl[j]) ++ frL head (j + 1) (bl.drop (j + 1))) := by
  rw [List.drop_eq_getElem_cons h]; rfl
set_option maxRecDepth 20000 in
set_option maxHeartbeats 2000000 in
theorem blocks_c (h : Hd) (x : UInt32) (bs pre : List UInt8) (bl : List (List UInt8)) (v : Value) (W0 w : World) (g9 g8 : Nat) (hc : List Value) (hok : h.Ok) (hl : bl.map List.length = lensL h.k h.b h.size)
    (hb : bs = pre ++ frL x 0 bl) (hpre : pre.length = 40 + h.key.size) (hv : SlV vB W0 v bs) (hn : bs.length ≤ 70368744177664) (hh : hc.length = 16) (hH : Holds W0 w g9 g8 hc (.slice none 0 0) []) :
    Calls Try.prog 78 #[h.val, .int .u32 (w32 x), v, .func (.func 79) #[] #[.pointer (some ⟨g9, 0, none⟩), .pointer (some ⟨g8, 0, none⟩)]] w fun e w' => e = .returned (.tuple #[]) ∧ ∃ vb', Holds W0 w' g9 g8 hc vb' bl := by
  have hlb := lensL_le h.k h.b h.size (Nat.le_trans hok.sh.m1 hok.sh.m2) hok.sh.b1
  have hll := lensL_length h.k h.b h.size
  obtain ⟨s0, s1, s2, s3, s4, s5, s6, s7, k, m, b, key, size, index, epoch, count⟩ := h
  obtain ⟨hsh, k1, k2, hz, hst, hix, he1, he2, hc1, hc2⟩ := hok
  simp only [Hd.val, Hd.cells]
  simp only at hsh k1 k2 hz hst hl hpre hlb hll
  have hlr := fun w => lengths_c k m b size w (Nat.le_trans hsh.m1 hsh.m2) hsh.k2 hsh.b1 hsh.b2 hz
  simp only [shV] at hlr
  have hbn : bl.length ≤ 4096 := by rw [← List.length_map (f := List.length), hl, hll]; exact hst
  have hbb : ∀ y ∈ bl, y.length ≤ 65536 := fun y hy => Nat.le_trans (hlb _ (by rw [← hl]; exact List.mem_map_of_mem hy)) hsh.b2
  rw [← hl] at hlr
  generalize hgl : bl.map List.length = gl at hlr
  have hgn : gl.length = bl.length := by rw [← hgl, List.length_map]
  have HGL := Lib.hid hgl; clear hgl
  have HLR := Lib.hid hlr; clear hlr
  have HBB := Lib.hid hbb; clear hbb
  clear hix he1 he2 hc1 hc2 hlb hll hl hsh hz hst
  obtain ⟨A, c, rfl, hlc, hcm, hr⟩ := hv
  unfold maxLen at hcm
  have hbl : bs.length = 40 + key.size + (frL x 0 bl).length := by rw [hb, List.length_append, hpre]
  have hdr : bs.drop (36 + key.size + 4) = frL x 0 bl := by rw [hb]; exact List.drop_left' (by omega)
  have hr0 := hr.drop (n := 36 + key.size + 4) hlc
  rw [hdr] at hr0
  clear hdr hr hb hpre
  have HR0 := Lib.hid hr0; clear hr0
  have HH := Lib.hid hh; clear hh
  have HHo := Lib.hid hH; clear hH
  have q1 : IntKind.i64.wrap (36 + (key.size : Int)) = 36 + (key.size : Int) := IntWalk.i64_in _ (by omega)
  have q2 : IntKind.i64.wrap (36 + (key.size : Int) + 4) = 36 + (key.size : Int) + 4 := IntWalk.i64_in _ (by omega)
  go_enter Try.func78, Try.ntmps78
  go_upto_region 1 with fail
  have hcc := fun i => blk_cell (heap_alloc_new w (.cells #[.int .u8 (b8 s0), .int .u8 (b8 s1), .int .u8 (b8 s2), .int .u8 (b8 s3), .int .u8 (b8 s4), .int .u8 (b8 s5), .int .u8 (b8 s6), .int .u8 (b8 s7), .int .i64 (k : Int), .int .i64 (m : Int), .int .i64 (b : Int), .string key, .int .i64 (size : Int), .int .i64 (index : Int), .int .i64 (epoch : Int), .int .i64 (count : Int)] 94)) i
  have hbl1 : 40 + key.size ≤ bs.length := by omega
  have HBL := Lib.hid hbl; clear hbl
  go_upto_region 2 with fail
  generalize hA : (@ite (Option Addr) (c = _) _ A _) = A1
  have hr1 := HR0.out
  rw [hA] at hr1
  have HR := Lib.hid hr1
  clear hr1 HR0 hA q1 q2
  have hbl := HBL.out
  go_wp2_with (first | (go_at_call 72; (with_reducible refine (HLR.out _).mono ?_); rintro e w2 ⟨v2, rfl, ho2, hE2⟩; obtain ⟨AL, cL, rfl, hLc, hLm, hLr⟩ := ho2.form; have HHo2 := Lib.hid ((HHo.out.more ((Ext.refl w).al _)).more hE2); have HO2 := Lib.hid ho2; clear hcc hE2 ho2 hLr))
  unfold maxLen at hLm
  go_loopw [8, 25] (fun u i wi => ∃ (j : Nat) (A' : Option Addr) (c' : Nat) (rs : List UInt8) (vb : Value), j ≤ bl.length ∧ i = .int .i64 j ∧ u = .slice A' rs.length c' ∧ rs.length ≤ c' ∧ c' ≤ 9223372036854775807 ∧ Hid (rs = frL x j (bl.drop j)) ∧ Hid (RdS vB W0 A' rs) ∧ Hid (OwnS vN 3 wi 0 (.slice AL gl.length cL) gl) ∧ Hid (Holds W0 wi g9 g8 hc vb (bl.take j))) (fun _ i _ => bl.length - (intOf i).toNat)
  case atStart => exact ⟨0, A1, c - (36 + key.size + 4), frL x 0 bl, _, by omega, rfl, congrArg (fun n => Value.slice _ n _) (by omega), by omega, by omega, Lib.hid (by simp), HR, Lib.hid (HO2.out.lower (Nat.zero_le _)), by simpa using HHo2⟩
  case round =>
    clear HR HO2 HHo2 HHo HLR
    obtain ⟨j, A', c', rs, vb, hj, rfl, rfl, hrc, hcm', HRS, HRR, HL, HHj⟩ := hrel
    by_cases hlt : j < bl.length
    · have hfd := frL_drop x bl j hlt
      have hx := HBB.out bl[j] (List.getElem_mem hlt)
      have hg : gl[j]'(by omega) = bl[j].length := by simp [← HGL.out]
      have hrs := HRS.out
      rw [hfd] at hrs
      have htk : bl.take (j + 1) = bl.take j ++ [bl[j]] := List.take_succ_eq_append_getElem hlt
      have HTK := Lib.hid htk; clear htk
      generalize hbj : bl[j] = bj at hrs hx hg HTK
      generalize htl : frL x (j + 1) (bl.drop (j + 1)) = tl at hrs
      have HTL := Lib.hid htl; clear htl hbj hfd
      obtain ⟨b1, o1, rfl, hbl1, hcell1⟩ := HL.out.rd.at_ (k := j) (by omega)
      rw [hg] at hcell1
      unfold vN at hcell1
      clear hg
      have hlen : rs.length = bj.length + 4 + tl.length := by rw [hrs]; simp [le4_len]; omega
      have hr1 : RdS vB W0 A' bj := by have := HRR.out.take bj.length; rwa [hrs, List.take_left' rfl] at this
      have hr2 := HRR.out.drop (n := bj.length) hrc
      rw [if_neg (by omega), hrs, List.drop_left' rfl] at hr2
      have hr3 := hr2.take 4
      rw [List.take_left' (le4_len _)] at hr3
      have hr4 := HRR.out.drop (n := bj.length + 4) hrc
      have hd4 : rs.drop (bj.length + 4) = tl := by rw [hrs, ← List.drop_drop, List.drop_left' rfl, List.drop_left' (le4_len _)]
      rw [hd4] at hr4
      have HR4 := Lib.hid hr4; clear hr4 hd4 hr2
      have hsl1 : SlV vB W0 (.slice A' bj.length c') bj := ⟨_, _, rfl, by omega, by unfold maxLen; omega, hr1⟩
      have hsl3 : SlV vB W0 (.slice (A'.map (fun y => y.add bj.length)) 4 (c' - bj.length)) (le4 (ownW x j bj)) := ⟨_, _, rfl, by rw [le4_len]; omega, by unfold maxLen; omega, hr3⟩
      have HSL1 := Lib.hid hsl1; clear hsl1 hr1
      have HSL3 := Lib.hid hsl3; clear hsl3 hr3 hrs
      have q1 : IntKind.i64.wrap ((bj.length : Int) + 4) = (bj.length : Int) + 4 := IntWalk.i64_in _ (by omega)
      have p1 : ¬ c' = bj.length := by omega
      go_upto_region 11 with (first | (go_at_call 92; (with_reducible refine (open_c _ (le4 (ownW x j bj)) _ (HSL3.out.ext HHj.out.ext) (by simp [le4_len])).mono ?_); rintro e w3 ⟨g2, v3, rfl, hg3, hrd3, hE3⟩; have HG3 := Lib.hid hg3; have HR3 := Lib.hid hrd3; have HE3 := Lib.hid hE3; clear hg3 hrd3 hE3) | (go_at_call 95; (with_reducible refine (t32_c (ownW x j bj) g2 v3 (le4 (ownW x j bj)) 0 _ HR3.out rfl).mono ?_); rintro e w4 ⟨rfl, hr4, hg4⟩; have HE4 := Lib.hid (HE3.out.gr hg4 (fun k hk => by injection hk with e; exact e ▸ HG3.out)); clear hr4 hg4) | (go_at_call 76; (with_reducible refine (own_c x j _ bj _ (by omega) (HSL1.out.ext (HHj.out.ext.tr HE4.out)) (by omega)).mono ?_); rintro e w5 ⟨rfl, hE5⟩; have HE5 := Lib.hid (HE4.out.tr hE5); clear hE5) | (go_at_call 79; (with_reducible refine (push_c (j : Int) _ bj W0 _ g9 g8 hc vb (bl.take j) HSL1.out (by omega) (by simp; omega) HH.out (HHj.out.more HE5.out)).mono ?_); rintro e w6 ⟨rfl, ⟨vb6, hh6⟩, hk6⟩; have HH6 := Lib.hid hh6; have HK6 := Lib.hid hk6; clear hh6 hk6))
      generalize hA : (@ite (Option Addr) (c' = _) _ A' _) = A2
      have hr4 := HR4.out
      rw [hA] at hr4
      have HR5 := Lib.hid hr4
      clear hr4 HR4 hA q1 p1
      go_wp2_with fail
      refine ⟨⟨j + 1, A2, c' - (bj.length + 4), tl, vb6, by omega, by go_num, congrArg (fun n => Value.slice _ n _) (by omega), by omega, by omega, Lib.hid HTL.out.symm, HR5, Lib.hid ((HL.out.ext HE5.out).keep HK6.out), ?_⟩, by simp [intOf]; omega⟩
      rw [HTK.out]; exact HH6
    · obtain rfl : j = bl.length := by omega
      go_wp2
      go_end0
      refine ⟨rfl, vb, ?_⟩
      have := HHj.out
      rwa [List.take_length] at this
end Go.Proofs.Ytmcgcfbdofpfdaa
