/- The walk of frame.Parse on a file's form. -/
import Derived.Test.YtmcgcfbdofpfdaaFrameH
namespace Go.Proofs.Ytmcgcfbdofpfdaa
open Go.RowKit
theorem frL_len (x : UInt32) (bl : List (List UInt8)) (j : Nat) : (frL x j bl).length = sumLens (bl.map List.length) := by
  induction bl generalizing j with
  | nil => rfl
  | cons b bl ih =>
    have e : sumLens ((b :: bl).map List.length) = (b.length + 4) + sumLens (bl.map List.length) := by
      show (List.map List.length (b :: bl)).foldl _ 0 = _
      rw [List.map_cons, List.foldl_cons, foldl_add]; omega
    rw [e, ← ih (j + 1)]
    simp [frL, le4_len]
    omega
theorem fileB_frL (h : Hd) (bl : List (List UInt8)) : fileB h bl = h.firstB ++ le4 h.oneW ++ h.key.data.toList ++ le4 h.headW ++ frL h.headW 0 bl := by
  unfold fileB
  have := frTo_frL h.headW bl bl.length 0 (by omega)
  simp only [Nat.zero_add, frTo, List.nil_append, List.drop_zero] at this
  rw [this]
theorem fileB_len (h : Hd) (bl : List (List UInt8)) (hl : bl.map List.length = lensL h.k h.b h.size) : (fileB h bl).length = h.len := by
  rw [fileB_frL]
  have hk : h.key.data.toList.length = h.key.size := Array.length_toList
  simp only [List.length_append, le4_len, Hd.firstB_len, frL_len, hl, hk, Hd.len]
  omega
set_option maxRecDepth 20000 in
set_option maxHeartbeats 2000000 in
theorem parse_c (h : Hd) (bl : List (List UInt8)) (v : Value) (w : World) (hok : h.Ok) (hl : bl.map List.length = lensL h.k h.b h.size) (hv : SlV vB w v (fileB h bl)) (hn : (fileB h bl).length ≤ 70368744177664) :
    Calls Try.prog 52 #[v] w fun e w' => (∃ vb, e = .returned (.tuple #[h.with_ vb, .int .i64 0]) ∧ OwnR R8 22 w' w.heap.size vb bl) ∧ Ext w w' := by
  have hop := fun W (hW : SlV vB W v (fileB h bl)) => openf_c h (fileB h bl) (frL h.headW 0 bl) v W hok hW hn (fileB_frL h bl)
  have hln := fileB_len h bl hl
  have hbk := fun W0 W g9 g8 (hW : SlV vB W0 v (fileB h bl)) hH => blocks_c h h.headW (fileB h bl) (h.firstB ++ le4 h.oneW ++ h.key.data.toList ++ le4 h.headW) bl v W0 W g9 g8 h.cells hok hl (fileB_frL h bl) (by
    have hk : h.key.data.toList.length = h.key.size := Array.length_toList
    simp only [List.length_append, le4_len, Hd.firstB_len, hk]; omega) hW hn rfl hH
  have hle := fun w => length_c h w hok
  generalize fileB h bl = bs at *
  generalize h.headW = xh at *
  generalize hxl : h.len = ln at *
  have HV := Lib.hid hv
  obtain ⟨A, c, rfl, hlc, hcm, _⟩ := hv
  unfold maxLen at hcm
  rw [hln] at hop hbk hlc hn HV ⊢
  clear hl hxl hln
  obtain ⟨s0, s1, s2, s3, s4, s5, s6, s7, k, m, b, key, size, index, epoch, count⟩ := h
  clear hok
  simp only [Hd.val, Hd.cells] at hop hbk hle
  simp only [Hd.with_, Hd.cells, List.cons_append, List.nil_append]
  have hmf : ∀ (fn : Fn) (first cap : Array Value) (w : World), (Instr.makeFunc fn first cap).run Try.prog w = .ok (.func fn first cap) w := fun _ _ _ _ => rfl
  have HOP := Lib.hid hop; clear hop
  have HBK := Lib.hid hbk; clear hbk
  have HLE := Lib.hid hle; clear hle
  obtain ⟨z, hz⟩ : ∃ z, z = Obj.cells (#[.int .u8 0, .int .u8 0, .int .u8 0, .int .u8 0, .int .u8 0, .int .u8 0, .int .u8 0, .int .u8 0, .int .i64 0, .int .i64 0, .int .i64 0, .string ⟨#[]⟩, .int .i64 0, .int .i64 0, .int .i64 0, .int .i64 0, .slice none 0 0] : Array Value) 96 (0, 0) := ⟨_, rfl⟩
  have hb1 := heap_alloc_new w z
  have hE1 := (Ext.refl w).al z
  rw [hz] at hb1 hE1
  have HB1 := Lib.hid hb1; clear hb1
  have HE1 := Lib.hid hE1; clear hE1 hz
  go_enter Try.func52, Try.ntmps52
  go_upto_region 11 with (first | (go_at_call 77; (with_reducible refine (HOP.out _ (HV.out.ext HE1.out)).mono ?_); rintro e w2 ⟨rfl, hE2⟩; have HE2 := Lib.hid (HE1.out.tr hE2); have HB2 := Lib.hid (hE2.heap HB1.out); clear HB1 HE1 hE2) | ((with_reducible show wpList _ _ _ ({ dst := none, op := .store 94 (.tmp 4) (.tmp 13), type := _, pos := _, after := _, guard := none } :: _) _ _); refine wpList_store_blk rfl rfl 94 (.tmp 4) (.tmp 13) rfl w2.heap.size _ rfl rfl 94 _ (heap_alloc_new w2 _) (by kernel_rfl) rfl (by simp [Value.oneCell']) ?_; intro w2b hb2 hg2; have HBH2 := Lib.hid hb2; have HE2b := Lib.hid ((HE2.out.al _).gr hg2 (fun k hk => by injection hk with e; exact e ▸ HE2.out.size)); have HB2b := Lib.hid ((hg2.block w.heap.size (Nat.lt_succ_of_lt (blk_lt HB2.out) |> fun h => by simpa using h) (fun e => by injection e with e; have := blk_lt HB2.out; omega)).trans (blk_al HB2.out _)); clear hb2 hg2 HB2 HE2) | ((with_reducible show wpList _ _ _ ({ dst := some 20, op := .load 94 (.tmp 4), type := _, pos := _, after := _, guard := none } :: _) _ _); refine wpList_load_row rfl 94 (.tmp 4) rfl _ rfl _ _ _ _ HBH2.out Try.underlying94 rfl (by kernel_rfl) ?_) | (go_at_call 74; (with_reducible refine (HLE.out _).mono ?_); rintro e w3 ⟨rfl, hE3⟩; have HE3 := Lib.hid (HE2b.out.tr hE3); have HB3 := Lib.hid (hE3.heap HB2b.out); have HBH := Lib.hid (hE3.heap HBH2.out); clear HB2b HE2b HBH2) | ((with_reducible show wpList _ _ _ ({ dst := some 34, op := .load 94 (.tmp 4), type := _, pos := _, after := _, guard := none } :: _) _ _); refine wpList_load_row rfl 94 (.tmp 4) rfl _ rfl _ _ _ _ HBH.out Try.underlying94 rfl (by kernel_rfl) ?_) | ((with_reducible show wpList _ _ _ ({ dst := none, op := .store 96 (.tmp 8) (.tmp 35), type := _, pos := _, after := _, guard := none } :: _) _ _); refine wpList_store_blk rfl rfl 96 (.tmp 8) (.tmp 35) rfl w3.heap.size _ rfl rfl 96 _ (heap_alloc_new w3 _) (by kernel_rfl) rfl (by simp [Value.oneCell']) ?_; intro w5 hb5 hg5))
  have hE5 : Ext w3 w5 := ((Ext.refl w3).al _).gr hg5 (fun k hk => by injection hk with e; exact e ▸ Nat.le_refl _)
  have HBH5 := Lib.hid (hE5.heap HBH.out)
  have HE5 := Lib.hid (HE3.out.tr hE5)
  have hlt := blk_lt hb5
  have hE6 := (Ext.refl w5).al (.cells #[.bool true] 4)
  have hok6 := heap_alloc_new w5 (.cells #[.bool true] 4)
  have HBH6 := Lib.hid (hE6.heap HBH5.out)
  have HHo : Hid (Holds w3 (w5.alloc (.cells #[.bool true] 4)) w5.heap.size w3.heap.size [.int .u8 (b8 s0), .int .u8 (b8 s1), .int .u8 (b8 s2), .int .u8 (b8 s3), .int .u8 (b8 s4), .int .u8 (b8 s5), .int .u8 (b8 s6), .int .u8 (b8 s7), .int .i64 (k : Int), .int .i64 (m : Int), .int .i64 (b : Int), .string key, .int .i64 (size : Int), .int .i64 (index : Int), .int .i64 (epoch : Int), .int .i64 (count : Int)] (.slice none 0 0) []) :=
    Lib.hid ⟨hok6, hE6.heap hb5, OwnR.nil _ _, hE5.tr hE6, hE5.size, Nat.le_refl _⟩
  have HE6 := Lib.hid (HE5.out.tr hE6)
  clear hE5 hb5 hg5 HBH5 HBH HE5 hE6 hok6 hlt
  generalize w5.alloc (.cells #[.bool true] 4) = w6 at HBH6 HHo HE6 ⊢
  go_upto_region 12 with (first | ((with_reducible show wpList _ _ _ ({ dst := some 36, op := .load 94 (.tmp 4), type := _, pos := _, after := _, guard := none } :: _) _ _); refine wpList_load_row rfl 94 (.tmp 4) rfl _ rfl _ _ _ _ HBH6.out Try.underlying94 rfl (by kernel_rfl) ?_) | (go_at_call 78; (with_reducible refine (HBK.out w3 _ _ _ (HV.out.ext HE3.out) HHo.out).mono ?_); rintro e w7 ⟨rfl, vb, hh7⟩; obtain ⟨vs, hvo, hvl, hvr⟩ := hh7.own; obtain ⟨A7, c7, rfl, _⟩ := hvo.form; have HH7 := Lib.hid hh7; clear hh7 hvo hvl hvr))
  have hc9 := blk_cell HH7.out.ok 0
  have HB7 := Lib.hid (HH7.out.ext.heap HB3.out)
  clear HBH6 HHo HE6 HB3
  go_wp2_with (first | ((with_reducible show wpList _ _ _ ({ dst := some 44, op := .load 96 (.tmp 8), type := _, pos := _, after := _, guard := none } :: _) _ _); refine wpList_load_row rfl 96 (.tmp 8) rfl _ rfl _ _ _ _ HH7.out.sh Try.underlying96 rfl (by kernel_rfl) ?_) | ((with_reducible show wpList _ _ _ ({ dst := none, op := .store 96 (.tmp 2) (.tmp 44), type := _, pos := _, after := _, guard := none } :: _) _ _); refine wpList_store_blk rfl rfl 96 (.tmp 2) (.tmp 44) rfl w.heap.size _ rfl rfl 96 _ HB7.out (by kernel_rfl) rfl (by simp [Value.oneCell']) ?_; intro w8 hb8 hg8; clear hc9))
  have hF := HH7.out
  have hcc := fun i => blk_cell hb8 i
  refine bodyPost_ret (v := .tuple #[.agg (([.int .u8 (b8 s0), .int .u8 (b8 s1), .int .u8 (b8 s2), .int .u8 (b8 s3), .int .u8 (b8 s4), .int .u8 (b8 s5), .int .u8 (b8 s6), .int .u8 (b8 s7), .int .i64 (k : Int), .int .i64 (m : Int), .int .i64 (b : Int), .string key, .int .i64 (size : Int), .int .i64 (index : Int), .int .i64 (epoch : Int), .int .i64 (count : Int)] ++ [.slice A7 vs.length c7] : List Value)).toArray, .int .i64 0]) ?_ ?_ ?_
  · simp [results, Try.results52, go_sem, hcc]
  · rfl
  exact ⟨⟨_, rfl, (hF.own.gb8 HB7.out (by decide) (by decide) hg8).lower HE3.out.size⟩, (HE3.out.tr hF.ext).gr hg8 (fun k hk => by injection hk with e; exact e ▸ Nat.le_refl _)⟩
end Go.Proofs.Ytmcgcfbdofpfdaa
