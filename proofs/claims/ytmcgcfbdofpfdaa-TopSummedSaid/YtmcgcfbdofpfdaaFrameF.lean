/- The walk of frame.open on a file's form. -/
import Derived.Test.YtmcgcfbdofpfdaaFrameE
import Derived.Laws.Cover3
import Derived.Deep.DeepCutAuto
namespace Go.Proofs.Ytmcgcfbdofpfdaa
open Go.RowKit
theorem RdS.cell {α : Type} {enc : α → Value} {w : World} {b o : Nat} {xs : List α} (h : RdS enc w (some ⟨b, o, none⟩) xs) {k : Nat} {x : α} (hk : xs[k]? = some x) : w.cell? ⟨b, o + k, none⟩ = some (enc x) := by
  obtain ⟨hlt, hx⟩ := List.getElem?_eq_some_iff.1 hk
  obtain ⟨b', o', e, _, hc⟩ := h.at_ hlt
  injection e with e
  injection e with e1 e2
  subst e1 e2
  rw [hc, hx]
theorem RdS.sub {α : Type} {enc : α → Value} {w : World} {b o : Nat} {xs : List α} (h : RdS enc w (some ⟨b, o, none⟩) xs) (lo n : Nat) : RdS enc w (some ⟨b, o + lo, none⟩) ((xs.drop lo).take n) := fun hn => by
  have hlt : lo < xs.length := by
    apply Classical.byContradiction
    intro hc
    exact hn (by rw [List.drop_eq_nil_of_le (by omega)]; simp)
  obtain ⟨b', o', e, hb, _⟩ := h.at_ hlt
  injection e with e
  injection e with e1 e2
  subst e1 e2
  exact ⟨b, o + lo, rfl, hb, fun k hk => by
    have hk2 : k < n ∧ lo + k < xs.length := by simp at hk; omega
    rw [Nat.add_assoc, h.cell (k := lo + k) (List.getElem?_eq_getElem hk2.2)]
    simp⟩
/-- The bytes behind the mark, to the first sum. -/
def Hd.headB (h : Hd) : List UInt8 :=
  h.stB ++ [UInt8.ofNat h.k, UInt8.ofNat h.m] ++ le4 (UInt32.ofNat h.b) ++ le4 (UInt32.ofNat h.size) ++ [UInt8.ofNat h.index] ++ le4 (UInt32.ofNat h.epoch) ++ le4 (UInt32.ofNat h.count) ++ [UInt8.ofNat h.key.size] ++ le4 h.oneW
theorem Hd.headB_len (h : Hd) : h.headB.length = 32 := rfl
theorem Hd.firstB_headB (h : Hd) : h.firstB ++ le4 h.oneW = [67, 82, 78, 2] ++ h.headB := rfl
theorem ReaderAt.lt {w : World} {g : Nat} {v : Value} {bs : List UInt8} {k : Nat} (h : ReaderAt w g v bs k) : g < w.heap.size := by
  obtain ⟨hb, _⟩ := h
  exact blk_lt hb
theorem bytes8_c (g : Nat) (v : Value) (bs : List UInt8) (k : Nat) (w : World) (h : ReaderAt w g v bs k) (hk : k + 8 ≤ bs.length) (hb : bs.length ≤ 70368744177664) :
    Calls Try.prog 93 #[.pointer (some ⟨g, 0, none⟩), .int .i64 8] w fun e w' => ∃ v4, e = .returned v4 ∧ OwnS vB 5 w' w.heap.size v4 ((bs.drop k).take 8) ∧ ReaderAt w' g v bs (k + 8) ∧ w.grownBy w' (some g) :=
  bytes_c g v bs k 8 w h hk hb
theorem Fills.more {W0 w w' : World} {g g6 : Nat} {v : Value} {bs : List UInt8} {k : Nat} {cs : Array Value} (h : Fills W0 w g g6 v bs k cs) (hE : Ext w w') : Fills W0 w' g g6 v bs k cs :=
  ⟨h.rd.ext hE, hE.heap h.blk, h.ext.tr hE, h.ne, h.lo, h.lo6⟩
theorem head_all (s0 s1 s2 s3 s4 s5 s6 s7 : UInt8) : (#[.int .u8 (b8 s0), .int .u8 (b8 s1), .int .u8 (b8 s2), .int .u8 (b8 s3), .int .u8 (b8 s4), .int .u8 (b8 s5), .int .u8 (b8 s6), .int .u8 (b8 s7)] : Array Value).all (·.oneCell') = true := by simp [Value.oneCell']
theorem head_set (s0 s1 s2 s3 s4 s5 s6 s7 : UInt8) : setArr #[.int .u8 0, .int .u8 0, .int .u8 0, .int .u8 0, .int .u8 0, .int .u8 0, .int .u8 0, .int .u8 0, .int .i64 0, .int .i64 0, .int .i64 0, .string ⟨#[]⟩, .int .i64 0, .int .i64 0, .int .i64 0, .int .i64 0] 0 (#[.int .u8 (b8 s0), .int .u8 (b8 s1), .int .u8 (b8 s2), .int .u8 (b8 s3), .int .u8 (b8 s4), .int .u8 (b8 s5), .int .u8 (b8 s6), .int .u8 (b8 s7)] : Array Value).toList = #[.int .u8 (b8 s0), .int .u8 (b8 s1), .int .u8 (b8 s2), .int .u8 (b8 s3), .int .u8 (b8 s4), .int .u8 (b8 s5), .int .u8 (b8 s6), .int .u8 (b8 s7), .int .i64 0, .int .i64 0, .int .i64 0, .string ⟨#[]⟩, .int .i64 0, .int .i64 0, .int .i64 0, .int .i64 0] := by simp [setArr]
theorem mark_eq (w : World) : (Op.equalIn 10000 146 (.agg #[.int .u8 67, .int .u8 82, .int .u8 78, .int .u8 2]) (.agg #[.int .u8 67, .int .u8 82, .int .u8 78, .int .u8 2])).run Try.prog w = .ok true w := by kernel_rfl
set_option maxRecDepth 20000 in
set_option maxHeartbeats 1000000 in
theorem openf_c (h : Hd) (bs rest : List UInt8) (v : Value) (w : World) (hok : h.Ok) (hv : SlV vB w v bs) (hn : bs.length ≤ 70368744177664)
    (hb : bs = h.firstB ++ le4 h.oneW ++ h.key.data.toList ++ le4 h.headW ++ rest) :
    Calls Try.prog 77 #[v] w fun e w' => e = .returned (.tuple #[h.val, .int .u32 (w32 h.headW), .int .i64 0]) ∧ Ext w w' := by
  have hck := fun w => check_c h w hok
  have hone : Hid (h.oneW = sumW h.firstB) := Lib.hid rfl
  have hhead : Hid (h.headW = moreW h.oneW h.key.data.toList) := Lib.hid rfl
  have hkl : h.key.data.toList.length = h.key.size := Array.length_toList
  have hfb := h.firstB_headB
  have hl : 40 + h.key.size ≤ bs.length := by rw [hb]; simp [le4_len, Hd.firstB_len]; omega
  have h32 : bs.take 32 = h.firstB := by rw [hb]; simp only [List.append_assoc]; exact List.take_left' rfl
  have hd36 : bs.drop 36 = h.key.data.toList ++ (le4 h.headW ++ rest) := by rw [hb]; simp only [List.append_assoc]; rw [← List.append_assoc]; exact List.drop_left' rfl
  have hhd : (bs.drop 4).take 32 = h.headB := by rw [hb, hfb]; simp only [List.append_assoc]; rw [List.drop_left' (by rfl)]; exact List.take_left' rfl
  have hm0 : bs[0]? = some 67 ∧ bs[1]? = some 82 ∧ bs[2]? = some 78 ∧ bs[3]? = some 2 := by rw [hb, hfb]; exact ⟨rfl, rfl, rfl, rfl⟩
  generalize hxh : h.headW = xh at *
  have hHB : Hid (h.headB = h.stB ++ [UInt8.ofNat h.k, UInt8.ofNat h.m] ++ le4 (UInt32.ofNat h.b) ++ le4 (UInt32.ofNat h.size) ++ [UInt8.ofNat h.index] ++ le4 (UInt32.ofNat h.epoch) ++ le4 (UInt32.ofNat h.count) ++ [UInt8.ofNat h.key.size] ++ le4 h.oneW) := Lib.hid rfl
  generalize hxo : h.oneW = xo at *
  generalize hxr : h.headB = rs at *
  generalize hxf : h.firstB = fb at *
  have hrl : rs.length = 32 := by rw [← hxr]; rfl
  clear hb hxf hxr hxo hxh hfb
  obtain ⟨s0, s1, s2, s3, s4, s5, s6, s7, k, m, b, key, size, index, epoch, count⟩ := h
  obtain ⟨hsh, k1, k2, hz, hst, hix, he1, he2, hc1, hc2⟩ := hok
  simp only [Hd.val, Hd.cells] at hck ⊢
  simp only [Hd.stB] at hsh k1 k2 hz hst hix he1 he2 hc1 hc2 hHB hkl hl hd36 hhead
  have hb256 : k < 256 ∧ m < 256 ∧ b < 4294967296 ∧ size < 4294967296 ∧ index < 256 ∧ epoch < 4294967296 ∧ count < 4294967296 := by
    have := hsh.km; have := hsh.b2; omega
  have HCK := Lib.hid hck; clear hck
  obtain ⟨A, c, rfl, hlc, hcm, hr⟩ := hv
  obtain ⟨b0, o0, rfl, hb0, _⟩ := hr.at_ (k := 0) (by omega)
  have cm0 : w.cell? ⟨b0, o0, none⟩ = some (.int .u8 67) := hr.cell hm0.1
  have cm1 : w.cell? ⟨b0, o0 + 1, none⟩ = some (.int .u8 82) := hr.cell hm0.2.1
  have cm2 : w.cell? ⟨b0, o0 + 2, none⟩ = some (.int .u8 78) := hr.cell hm0.2.2.1
  have cm3 : w.cell? ⟨b0, o0 + 3, none⟩ = some (.int .u8 2) := hr.cell hm0.2.2.2
  unfold maxLen at hcm
  have HR := Lib.hid hr; clear hr hm0
  have HB := Lib.hid hb256; clear hb256
  clear hsh hz hst hix he1 he2 hc1 hc2 hb0
  obtain ⟨W1, hW1⟩ : ∃ W1, W1 = w.alloc (.cells #[.int .u8 0, .int .u8 0, .int .u8 0, .int .u8 0, .int .u8 0, .int .u8 0, .int .u8 0, .int .u8 0, .int .i64 0, .int .i64 0, .int .i64 0, .string ⟨#[]⟩, .int .i64 0, .int .i64 0, .int .i64 0, .int .i64 0] 94) := ⟨_, rfl⟩
  have HW1 := Lib.hid hW1
  have hE1 : Ext w W1 := by rw [hW1]; exact (Ext.refl w).al _
  have hh1 := heap_alloc_new w (.cells #[.int .u8 0, .int .u8 0, .int .u8 0, .int .u8 0, .int .u8 0, .int .u8 0, .int .u8 0, .int .u8 0, .int .i64 0, .int .i64 0, .int .i64 0, .string ⟨#[]⟩, .int .i64 0, .int .i64 0, .int .i64 0, .int .i64 0] 94)
  rw [← hW1] at hh1
  have HH1 := Lib.hid hh1; clear hh1 hW1
  replace cm0 := hE1.cl cm0
  replace cm1 := hE1.cl cm1
  replace cm2 := hE1.cl cm2
  replace cm3 := hE1.cl cm3
  have HE1 := Lib.hid hE1; clear hE1
  have hap : ∀ (a : Option Addr) (cap : Nat) (w : World), (Instr.arrayAt 146 (.slice a bs.length cap)).run Try.prog w = .ok (.pointer a) w := fun a cap w => run_arrayAt _ _ 5 4 a _ cap Try.underlying146 (by omega)
  have hme := mark_eq
  go_enter Try.func77, Try.ntmps77
  go_upto_region 3 with fail
  rw [← HW1.out]
  go_cut [19] from 15 to 19 (fun x wx => x = .bool false ∧ Hid (Ext W1 wx))
  case first =>
    go_region_held3 (fun w' => w'.cell? ⟨b0, o0, none⟩ = some (.int .u8 67) ∧ w'.cell? ⟨b0, o0 + 1, none⟩ = some (.int .u8 82) ∧ w'.cell? ⟨b0, o0 + 2, none⟩ = some (.int .u8 78) ∧ w'.cell? ⟨b0, o0 + 3, none⟩ = some (.int .u8 2)) (first | exact ⟨cm0, cm1, cm2, cm3⟩ | exact ⟨hE2.cl cm0, hE2.cl cm1, hE2.cl cm2, hE2.cl cm3⟩ | assumption) (first | (go_at_call 90; refine (mark_c _).mono ?_; rintro e w2 ⟨rfl, hE2⟩))
    all_goals (go_wp2_with fail; go_meet; exact ⟨rfl, Lib.hid (Ext.tr ((Ext.refl W1).dr) hE2)⟩)
  case rest =>
  obtain ⟨rfl, HE2⟩ := hcut
  clear cm0 cm1 cm2 cm3 hap hme
  have hsub : ∀ W, Ext W1 W → ∀ lo n, RdS vB W (some ⟨b0, o0 + lo, none⟩) ((bs.drop lo).take n) := fun W hW lo n => (HR.out.ext (HE1.out.tr hW)).sub lo n
  have hsl1 : SlV vB wc (.slice (some ⟨b0, o0 + 4, none⟩) 32 (c - 4)) rs := ⟨_, _, by rw [hrl], by rw [hrl]; omega, by unfold maxLen; omega, by have := hsub _ HE2.out 4 32; rwa [hhd] at this⟩
  have hsum : ∀ W, Ext W1 W → Calls Try.prog 6 #[.slice (some ⟨b0, o0, none⟩) 32 c] W fun e w' => e = .returned (.int .u32 (w32 xo)) ∧ Ext W w' := fun W hW => by
    have h1 := hsub W hW 0 32
    rw [List.drop_zero, h32, Nat.add_zero] at h1
    have hf : fb.length = 32 := by rw [← h32]; simp; omega
    have := sum_c (.slice (some ⟨b0, o0, none⟩) 32 c) fb W ⟨_, _, by rw [hf], by rw [hf]; omega, by unfold maxLen; omega, h1⟩
    rwa [← hone.out] at this
  have hkey : ∀ W, Ext W1 W → RdS vB W (some ⟨b0, o0 + 36, none⟩) key.data.toList := fun W hW => by
    have h1 := hsub W hW 36 key.size
    rwa [hd36, List.take_left' hkl] at h1
  have hhx : ∀ W, Ext W1 W → ∀ c', 4 ≤ c' → c' ≤ maxLen → SlV vB W (.slice (some ⟨b0, o0 + 36 + key.size, none⟩) 4 c') (le4 xh) := fun W hW c' h4 hm => by
    have h1 := hsub W hW (36 + key.size) 4
    rw [← List.drop_drop, hd36, List.drop_left' hkl, List.take_left' (le4_len xh), ← Nat.add_assoc] at h1
    exact ⟨_, _, rfl, h4, hm, h1⟩
  have hmore : ∀ W, Ext W1 W → Calls Try.prog 9 #[.int .u32 (w32 xo), .slice (some ⟨b0, o0 + 36, none⟩) key.size (c - 36)] W fun e w' => e = .returned (.int .u32 (w32 xh)) ∧ Ext W w' := fun W hW => by
    have := more_c xo (.slice (some ⟨b0, o0 + 36, none⟩) key.size (c - 36)) _ W ⟨_, _, by rw [hkl], by rw [hkl]; omega, by unfold maxLen; omega, hkey W hW⟩
    rwa [← hhead.out] at this
  have hq : ∀ x : Nat, x < 4294967296 → IntKind.i64.wrap (x : Int) = (x : Int) := fun x hx => IntWalk.i64_in _ (by omega)
  have hb256 := HB.out
  have q1 := hq k (by omega)
  have q2 := hq m (by omega)
  have q3 := hq b (by omega)
  have q4 := hq size (by omega)
  have q5 := hq index (by omega)
  have q6 := hq epoch (by omega)
  have q7 := hq count (by omega)
  have q8 := hq key.size (by omega)
  have hap : ∀ (a : Option Addr) (cap : Nat) (w : World), (Instr.arrayAt 92 (.slice a 8 cap)).run Try.prog w = .ok (.pointer a) w := fun a cap w => run_arrayAt _ _ 5 8 a _ cap Try.underlying92 (by omega)
  have HALL := Lib.hid (head_all s0 s1 s2 s3 s4 s5 s6 s7)
  have HSET := Lib.hid (head_set s0 s1 s2 s3 s4 s5 s6 s7)
  have HSL1 := Lib.hid hsl1; clear hsl1
  have HSUM := Lib.hid hsum; clear hsum
  have HKEY := Lib.hid hkey; clear hkey
  have HHX := Lib.hid hhx; clear hhx
  have HMORE := Lib.hid hmore; clear hmore
  have HKL := Lib.hid hkl; clear hkl
  clear hb256 hq hsub hd36 hhd h32 hone hhead
  have E27 : Hid ((rs.drop 27).take 1 = [UInt8.ofNat key.size]) := Lib.hid (by rw [hHB.out]; rfl)
  have E28 : Hid ((rs.drop 28).take 4 = le4 xo) := Lib.hid (by rw [hHB.out]; rfl)
  have E8 : Hid ((rs.drop 8).take 1 = [UInt8.ofNat k]) := Lib.hid (by rw [hHB.out]; rfl)
  have E9 : Hid ((rs.drop 9).take 1 = [UInt8.ofNat m]) := Lib.hid (by rw [hHB.out]; rfl)
  have E10 : Hid ((rs.drop 10).take 4 = le4 (UInt32.ofNat b)) := Lib.hid (by rw [hHB.out]; rfl)
  have E14 : Hid ((rs.drop 14).take 4 = le4 (UInt32.ofNat size)) := Lib.hid (by rw [hHB.out]; rfl)
  have E18 : Hid ((rs.drop 18).take 1 = [UInt8.ofNat index]) := Lib.hid (by rw [hHB.out]; rfl)
  have E19 : Hid ((rs.drop 19).take 4 = le4 (UInt32.ofNat epoch)) := Lib.hid (by rw [hHB.out]; rfl)
  have E23 : Hid ((rs.drop 23).take 4 = le4 (UInt32.ofNat count)) := Lib.hid (by rw [hHB.out]; rfl)
  go_wp2_with (first | (go_at_call 92; ((with_reducible refine (open_c _ rs _ HSL1.out (by omega)).mono ?_); rintro e w3 ⟨g, v3, rfl, hg3, hrd3, hE3⟩; have hf3 : Fills W1 (w3.alloc (.cells #[.int .u8 0, .int .u8 0, .int .u8 0, .int .u8 0, .int .u8 0, .int .u8 0, .int .u8 0, .int .u8 0, .int .i64 0, .int .i64 0, .int .i64 0, .string ⟨#[]⟩, .int .i64 0, .int .i64 0, .int .i64 0, .int .i64 0] 94)) g w3.heap.size v3 rs 0 #[.int .u8 0, .int .u8 0, .int .u8 0, .int .u8 0, .int .u8 0, .int .u8 0, .int .u8 0, .int .u8 0, .int .i64 0, .int .i64 0, .int .i64 0, .string ⟨#[]⟩, .int .i64 0, .int .i64 0, .int .i64 0, .int .i64 0] := ⟨hrd3.ext ((Ext.refl _).al _), heap_alloc_new _ _, (HE2.out.tr hE3).al _, Nat.ne_of_lt hrd3.lt, Nat.le_trans HE2.out.size hg3, (HE2.out.tr hE3).size⟩; have HF3 := Lib.hid hf3; clear hf3 hrd3 hg3 hE3 HSL1)) | (go_at_call 93; ((with_reducible refine (bytes8_c g v3 rs 0 _ HF3.out.rd (by omega) (by omega)).mono ?_); rintro e w4 ⟨v4, rfl, ho4, hr4, hg4⟩; rw [show (rs.drop 0).take 8 = [s0, s1, s2, s3, s4, s5, s6, s7] by rw [hHB.out]; rfl] at ho4; obtain ⟨A4, c4, rfl, h4c, h4m, h4r⟩ := ho4.form; obtain ⟨b4, o4, rfl, _, _⟩ := h4r.at_ (k := 0) (by simp); have e0 : w4.cell? ⟨b4, o4, none⟩ = some (.int .u8 (b8 s0)) := h4r.cell (k := 0) rfl; have e1 : w4.cell? ⟨b4, o4 + 1, none⟩ = some (.int .u8 (b8 s1)) := h4r.cell (k := 1) rfl; have e2 : w4.cell? ⟨b4, o4 + 2, none⟩ = some (.int .u8 (b8 s2)) := h4r.cell (k := 2) rfl; have e3 : w4.cell? ⟨b4, o4 + 3, none⟩ = some (.int .u8 (b8 s3)) := h4r.cell (k := 3) rfl; have e4 : w4.cell? ⟨b4, o4 + 4, none⟩ = some (.int .u8 (b8 s4)) := h4r.cell (k := 4) rfl; have e5 : w4.cell? ⟨b4, o4 + 5, none⟩ = some (.int .u8 (b8 s5)) := h4r.cell (k := 5) rfl; have e6 : w4.cell? ⟨b4, o4 + 6, none⟩ = some (.int .u8 (b8 s6)) := h4r.cell (k := 6) rfl; have e7 : w4.cell? ⟨b4, o4 + 7, none⟩ = some (.int .u8 (b8 s7)) := h4r.cell (k := 7) rfl; have HF4 := Lib.hid (HF3.out.take hr4 hg4); clear HF3 h4c h4m h4r ho4 hr4 hg4)) | ((with_reducible show wpList _ _ _ ({ dst := none, op := .store 92 (.tmp 28) (.tmp 27), type := _, pos := _, after := _, guard := none } :: _) _ _); refine wpList_store_at rfl rfl 92 (.tmp 28) (.tmp 27) rfl w3.heap.size 0 #[.int .u8 (b8 s0), .int .u8 (b8 s1), .int .u8 (b8 s2), .int .u8 (b8 s3), .int .u8 (b8 s4), .int .u8 (b8 s5), .int .u8 (b8 s6), .int .u8 (b8 s7)] rfl rfl 94 _ #[.int .u8 (b8 s0), .int .u8 (b8 s1), .int .u8 (b8 s2), .int .u8 (b8 s3), .int .u8 (b8 s4), .int .u8 (b8 s5), .int .u8 (b8 s6), .int .u8 (b8 s7), .int .i64 0, .int .i64 0, .int .i64 0, .string ⟨#[]⟩, .int .i64 0, .int .i64 0, .int .i64 0, .int .i64 0] HF4.out.blk (by kernel_rfl) (by simp) HALL.out HSET.out ?_; intro w5 hb5 hg5; have HF5 := Lib.hid (HF4.out.put hb5 hg5); clear HF4 hb5 hg5 e0 e1 e2 e3 e4 e5 e6 e7) | (go_at_call 94; (have hf : Fills W1 _ g w3.heap.size v3 rs 8 #[.int .u8 (b8 s0), .int .u8 (b8 s1), .int .u8 (b8 s2), .int .u8 (b8 s3), .int .u8 (b8 s4), .int .u8 (b8 s5), .int .u8 (b8 s6), .int .u8 (b8 s7), .int .i64 0, .int .i64 0, .int .i64 0, .string ⟨#[]⟩, .int .i64 0, .int .i64 0, .int .i64 0, .int .i64 0] := HF5.out; (with_reducible refine (t8_c k HB.out.1 g v3 rs 8 _ hf.rd E8.out).mono ?_); rintro e w6 ⟨rfl, hr6, hg6⟩; have HF6 := Lib.hid (hf.take hr6 hg6); clear hf HF5 hr6 hg6)) | ((with_reducible show wpList _ _ _ ({ dst := none, op := .store 3 (.tmp 33) (.tmp 31), type := _, pos := _, after := _, guard := none } :: _) _ _); refine wpList_store_cell rfl rfl 3 (.tmp 33) (.tmp 31) rfl w3.heap.size 8 (.int .i64 (k : Int)) rfl rfl rfl 94 _ HF6.out.blk (by kernel_rfl) (by simp) ?_) | (go_at_call 94; (have hf : Fills W1 _ g w3.heap.size v3 rs 9 #[.int .u8 (b8 s0), .int .u8 (b8 s1), .int .u8 (b8 s2), .int .u8 (b8 s3), .int .u8 (b8 s4), .int .u8 (b8 s5), .int .u8 (b8 s6), .int .u8 (b8 s7), .int .i64 (k : Int), .int .i64 0, .int .i64 0, .string ⟨#[]⟩, .int .i64 0, .int .i64 0, .int .i64 0, .int .i64 0] := (HF6.out.set 8 (.int .i64 (k : Int))); (with_reducible refine (t8_c m HB.out.2.1 g v3 rs 9 _ hf.rd E9.out).mono ?_); rintro e w7 ⟨rfl, hr7, hg7⟩; have HF7 := Lib.hid (hf.take hr7 hg7); clear hf HF6 hr7 hg7)) | ((with_reducible show wpList _ _ _ ({ dst := none, op := .store 3 (.tmp 38) (.tmp 36), type := _, pos := _, after := _, guard := none } :: _) _ _); refine wpList_store_cell rfl rfl 3 (.tmp 38) (.tmp 36) rfl w3.heap.size 9 (.int .i64 (m : Int)) rfl rfl rfl 94 _ HF7.out.blk (by kernel_rfl) (by simp) ?_) | (go_at_call 95; (have hf : Fills W1 _ g w3.heap.size v3 rs 10 #[.int .u8 (b8 s0), .int .u8 (b8 s1), .int .u8 (b8 s2), .int .u8 (b8 s3), .int .u8 (b8 s4), .int .u8 (b8 s5), .int .u8 (b8 s6), .int .u8 (b8 s7), .int .i64 (k : Int), .int .i64 (m : Int), .int .i64 0, .string ⟨#[]⟩, .int .i64 0, .int .i64 0, .int .i64 0, .int .i64 0] := (HF7.out.set 9 (.int .i64 (m : Int))); (with_reducible refine (t32n_c b HB.out.2.2.1 g v3 rs 10 _ hf.rd E10.out).mono ?_); rintro e w8 ⟨rfl, hr8, hg8⟩; have HF8 := Lib.hid (hf.take hr8 hg8); clear hf HF7 hr8 hg8)) | ((with_reducible show wpList _ _ _ ({ dst := none, op := .store 3 (.tmp 43) (.tmp 41), type := _, pos := _, after := _, guard := none } :: _) _ _); refine wpList_store_cell rfl rfl 3 (.tmp 43) (.tmp 41) rfl w3.heap.size 10 (.int .i64 (b : Int)) rfl rfl rfl 94 _ HF8.out.blk (by kernel_rfl) (by simp) ?_) | (go_at_call 95; (have hf : Fills W1 _ g w3.heap.size v3 rs 14 #[.int .u8 (b8 s0), .int .u8 (b8 s1), .int .u8 (b8 s2), .int .u8 (b8 s3), .int .u8 (b8 s4), .int .u8 (b8 s5), .int .u8 (b8 s6), .int .u8 (b8 s7), .int .i64 (k : Int), .int .i64 (m : Int), .int .i64 (b : Int), .string ⟨#[]⟩, .int .i64 0, .int .i64 0, .int .i64 0, .int .i64 0] := (HF8.out.set 10 (.int .i64 (b : Int))); (with_reducible refine (t32n_c size HB.out.2.2.2.1 g v3 rs 14 _ hf.rd E14.out).mono ?_); rintro e w9 ⟨rfl, hr9, hg9⟩; have HF9 := Lib.hid (hf.take hr9 hg9); clear hf HF8 hr9 hg9)) | ((with_reducible show wpList _ _ _ ({ dst := none, op := .store 3 (.tmp 47) (.tmp 46), type := _, pos := _, after := _, guard := none } :: _) _ _); refine wpList_store_cell rfl rfl 3 (.tmp 47) (.tmp 46) rfl w3.heap.size 12 (.int .i64 (size : Int)) rfl rfl rfl 94 _ HF9.out.blk (by kernel_rfl) (by simp) ?_) | (go_at_call 94; (have hf : Fills W1 _ g w3.heap.size v3 rs 18 #[.int .u8 (b8 s0), .int .u8 (b8 s1), .int .u8 (b8 s2), .int .u8 (b8 s3), .int .u8 (b8 s4), .int .u8 (b8 s5), .int .u8 (b8 s6), .int .u8 (b8 s7), .int .i64 (k : Int), .int .i64 (m : Int), .int .i64 (b : Int), .string ⟨#[]⟩, .int .i64 (size : Int), .int .i64 0, .int .i64 0, .int .i64 0] := (HF9.out.set 12 (.int .i64 (size : Int))); (with_reducible refine (t8_c index HB.out.2.2.2.2.1 g v3 rs 18 _ hf.rd E18.out).mono ?_); rintro e w10 ⟨rfl, hr10, hg10⟩; have HF10 := Lib.hid (hf.take hr10 hg10); clear hf HF9 hr10 hg10)) | ((with_reducible show wpList _ _ _ ({ dst := none, op := .store 3 (.tmp 51) (.tmp 50), type := _, pos := _, after := _, guard := none } :: _) _ _); refine wpList_store_cell rfl rfl 3 (.tmp 51) (.tmp 50) rfl w3.heap.size 13 (.int .i64 (index : Int)) rfl rfl rfl 94 _ HF10.out.blk (by kernel_rfl) (by simp) ?_) | (go_at_call 95; (have hf : Fills W1 _ g w3.heap.size v3 rs 19 #[.int .u8 (b8 s0), .int .u8 (b8 s1), .int .u8 (b8 s2), .int .u8 (b8 s3), .int .u8 (b8 s4), .int .u8 (b8 s5), .int .u8 (b8 s6), .int .u8 (b8 s7), .int .i64 (k : Int), .int .i64 (m : Int), .int .i64 (b : Int), .string ⟨#[]⟩, .int .i64 (size : Int), .int .i64 (index : Int), .int .i64 0, .int .i64 0] := (HF10.out.set 13 (.int .i64 (index : Int))); (with_reducible refine (t32n_c epoch HB.out.2.2.2.2.2.1 g v3 rs 19 _ hf.rd E19.out).mono ?_); rintro e w11 ⟨rfl, hr11, hg11⟩; have HF11 := Lib.hid (hf.take hr11 hg11); clear hf HF10 hr11 hg11)) | ((with_reducible show wpList _ _ _ ({ dst := none, op := .store 3 (.tmp 56) (.tmp 54), type := _, pos := _, after := _, guard := none } :: _) _ _); refine wpList_store_cell rfl rfl 3 (.tmp 56) (.tmp 54) rfl w3.heap.size 14 (.int .i64 (epoch : Int)) rfl rfl rfl 94 _ HF11.out.blk (by kernel_rfl) (by simp) ?_) | (go_at_call 95; (have hf : Fills W1 _ g w3.heap.size v3 rs 23 #[.int .u8 (b8 s0), .int .u8 (b8 s1), .int .u8 (b8 s2), .int .u8 (b8 s3), .int .u8 (b8 s4), .int .u8 (b8 s5), .int .u8 (b8 s6), .int .u8 (b8 s7), .int .i64 (k : Int), .int .i64 (m : Int), .int .i64 (b : Int), .string ⟨#[]⟩, .int .i64 (size : Int), .int .i64 (index : Int), .int .i64 (epoch : Int), .int .i64 0] := (HF11.out.set 14 (.int .i64 (epoch : Int))); (with_reducible refine (t32n_c count HB.out.2.2.2.2.2.2 g v3 rs 23 _ hf.rd E23.out).mono ?_); rintro e w12 ⟨rfl, hr12, hg12⟩; have HF12 := Lib.hid (hf.take hr12 hg12); clear hf HF11 hr12 hg12)) | ((with_reducible show wpList _ _ _ ({ dst := none, op := .store 3 (.tmp 61) (.tmp 59), type := _, pos := _, after := _, guard := none } :: _) _ _); refine wpList_store_cell rfl rfl 3 (.tmp 61) (.tmp 59) rfl w3.heap.size 15 (.int .i64 (count : Int)) rfl rfl rfl 94 _ HF12.out.blk (by kernel_rfl) (by simp) ?_) | (go_at_call 94; (have hf : Fills W1 _ g w3.heap.size v3 rs 27 #[.int .u8 (b8 s0), .int .u8 (b8 s1), .int .u8 (b8 s2), .int .u8 (b8 s3), .int .u8 (b8 s4), .int .u8 (b8 s5), .int .u8 (b8 s6), .int .u8 (b8 s7), .int .i64 (k : Int), .int .i64 (m : Int), .int .i64 (b : Int), .string ⟨#[]⟩, .int .i64 (size : Int), .int .i64 (index : Int), .int .i64 (epoch : Int), .int .i64 (count : Int)] := (HF12.out.set 15 (.int .i64 (count : Int))); (with_reducible refine (t8_c key.size (by omega) g v3 rs 27 _ hf.rd E27.out).mono ?_); rintro e w13 ⟨rfl, hr13, hg13⟩; have HF13 := Lib.hid (hf.take hr13 hg13); clear hf HF12 hr13 hg13)) | (go_at_call 95; ((with_reducible refine (t32_c xo g v3 rs 28 _ HF13.out.rd E28.out).mono ?_); rintro e w14 ⟨rfl, hr14, hg14⟩; have HF14 := Lib.hid (HF13.out.take hr14 hg14); clear HF13 hr14 hg14)) | (go_at_call 6; ((with_reducible refine (HSUM.out _ HF14.out.ext).mono ?_); rintro e w15 ⟨rfl, hE15⟩; have HF15 := Lib.hid (HF14.out.more hE15); clear HF14 hE15)) | (refine wpList_string_S rfl 22 9 5 (.tmp 83) rfl Try.underlying22 Try.underlying9 Try.underlying5 key rfl HKL.out.symm (by omega) (HKEY.out _ HF15.out.ext) ?_) | ((with_reducible show wpList _ _ _ ({ dst := none, op := .store 9 (.tmp 85) (.tmp 84), type := _, pos := _, after := _, guard := none } :: _) _ _); refine wpList_store_cell rfl rfl 9 (.tmp 85) (.tmp 84) rfl w3.heap.size 11 (.string key) rfl rfl rfl 94 _ HF15.out.blk (by kernel_rfl) (by simp) ?_) | (go_at_call 9; (have hf : Fills W1 _ g w3.heap.size v3 rs 32 #[.int .u8 (b8 s0), .int .u8 (b8 s1), .int .u8 (b8 s2), .int .u8 (b8 s3), .int .u8 (b8 s4), .int .u8 (b8 s5), .int .u8 (b8 s6), .int .u8 (b8 s7), .int .i64 (k : Int), .int .i64 (m : Int), .int .i64 (b : Int), .string key, .int .i64 (size : Int), .int .i64 (index : Int), .int .i64 (epoch : Int), .int .i64 (count : Int)] := (HF15.out.set 11 (.string key)); (with_reducible refine (HMORE.out _ hf.ext).mono ?_); rintro e w16 ⟨rfl, hE16⟩; have HF16 := Lib.hid (hf.more hE16); clear hf HF15 hE16)) | (go_at_call 92; ((with_reducible refine (open_c _ (le4 xh) _ (HHX.out _ HF16.out.ext (c - 36 - key.size) (by omega) (by unfold maxLen; omega)) (by simp [le4_len])).mono ?_); rintro e w17 ⟨g2, v17, rfl, hg17, hrd17, hE17⟩; have HG17 := Lib.hid hg17; have HR17 := Lib.hid hrd17; have HE17 := Lib.hid hE17; clear hg17 hrd17 hE17)) | (go_at_call 95; ((with_reducible refine (t32_c xh g2 v17 (le4 xh) 0 _ HR17.out rfl).mono ?_); rintro e w18 ⟨rfl, hr18, hg18⟩; have HF18 := Lib.hid (HF16.out.more (HE17.out.gr hg18 (fun k hk => by injection hk with e; exact e ▸ HG17.out))); clear hr18 hg18; have hcc := fun i => blk_cell HF18.out.blk i)) | (go_at_call 67; ((with_reducible refine (HCK.out _).mono ?_); rintro e w19 ⟨rfl, hE19⟩; have HF19 := Lib.hid (HF18.out.more hE19); clear hE19 hcc; have hcc := fun i => blk_cell HF19.out.blk i; have HB2 := Lib.hid (HF19.out.ext.heap HH1.out))) | ((with_reducible show wpList _ _ _ ({ dst := none, op := .store 94 (.tmp 2) (.tmp 105), type := _, pos := _, after := _, guard := none } :: _) _ _); refine wpList_store_blk rfl rfl 94 (.tmp 2) (.tmp 105) rfl _ _ rfl rfl _ _ HB2.out (by kernel_rfl) rfl (by simp [Value.oneCell']) ?_; intro w20 hb20 hg20; clear hcc))
  have hc20 := fun i => blk_cell hb20 i
  refine bodyPost_ret (v := .tuple #[.agg #[.int .u8 (b8 s0), .int .u8 (b8 s1), .int .u8 (b8 s2), .int .u8 (b8 s3), .int .u8 (b8 s4), .int .u8 (b8 s5), .int .u8 (b8 s6), .int .u8 (b8 s7), .int .i64 (k : Int), .int .i64 (m : Int), .int .i64 (b : Int), .string key, .int .i64 (size : Int), .int .i64 (index : Int), .int .i64 (epoch : Int), .int .i64 (count : Int)], .int .u32 (w32 xh), .int .i64 0]) (by simp [results, Try.results77, go_sem, hc20]) rfl ⟨rfl, (HE1.out.tr HF19.out.ext).gr hg20 (fun k hk => by injection hk with e; exact e ▸ Nat.le_refl _)⟩
end Go.Proofs.Ytmcgcfbdofpfdaa
