/- The walks of the codec's writing: clones, widths, numbers put behind bytes. -/
import Derived.Test.YtmcgcfbdofpfdaaCrcB
import Derived.Lib.SliceRun
namespace Go.Proofs.Ytmcgcfbdofpfdaa
open Go.RowKit
set_option maxRecDepth 8000 in
theorem bclone_c (v : Value) (bs : List UInt8) (w : World) (hv : SlV vB w v bs) (hn : bs.length ≤ 140737488355328) :
    Calls Try.prog 71 #[v] w fun e w' => ∃ v', e = .returned v' ∧ OwnS vB 5 w' w.heap.size v' bs ∧ Ext w w' := by
  obtain ⟨A, c, rfl, hlc, hcm, hr⟩ := hv
  unfold maxLen at hcm
  have HR := Lib.hid hr; clear hr
  have hnil := fun (w : World) (a : Option Addr) (n c : Nat) => Lib.run_eql_slice_nil (P := Try.prog) w 22 5 a n c 0 0 Try.underlying22
  cases A with
  | none =>
    have hb : bs = [] := Classical.byContradiction fun h => by obtain ⟨_, _, e, _⟩ := HR.out h; cases e
    have HB := Lib.hid hb; clear hb
    have hs := fun (w : World) (n c : Nat) => hnil w none n c
    clear hnil
    go_enter Try.func71, Try.ntmps71
    go_wp2
    go_ret
    exact ⟨_, rfl, by rw [HB.out]; exact OwnS.nil _ _, Ext.refl _⟩
  | some a =>
    have hs := fun (w : World) (n c : Nat) => hnil w (some a) n c
    clear hnil
    go_enter Try.func71, Try.ntmps71
    have h0 : SlV vB w (.slice (some a) bs.length c) bs := ⟨_, _, rfl, hlc, by unfold maxLen; exact hcm, HR.out⟩
    have H0 := Lib.hid h0; clear h0
    go_wp2_with (refine wpList_append_S (enc := vB) (fun _ _ => rfl) rfl (.tmp 5) (.tmp 6) 22 5 _ 1 w.heap.size rfl Try.underlying22 info8 rfl (v := .slice (some ⟨w.heap.size, 0, none⟩) 0 0) (xs := []) rfl (OwnS.lit (xs := []) w (Nat.le_refl _) (Nat.zero_le _)) rfl rfl (HR.out.ext ((Ext.refl w).al _)) (by simp [maxLen]; omega) (by simp; omega) (by simp) ?_; intro v1 w1 ho hg ha)
    go_ret
    exact ⟨v1, rfl, by simpa using ho, ((Ext.refl w).al _).gr hg (by simp [Value.ownBlock])⟩
set_option maxRecDepth 20000 in
theorem len64_32 (w : World) : Calls Try.prog 97 #[.int .u64 4294967295] w fun e w' => e = .returned (.int .i64 32) ∧ w = w' := by
  go_enter Try.func97, Try.ntmps97
  go_wp2
  go_ret
  exact ⟨by kernel_rfl, rfl⟩
set_option maxRecDepth 20000 in
theorem len64_8 (w : World) : Calls Try.prog 97 #[.int .u64 255] w fun e w' => e = .returned (.int .i64 8) ∧ w = w' := by
  go_enter Try.func97, Try.ntmps97
  go_wp2
  go_ret
  exact ⟨by kernel_rfl, rfl⟩
theorem width32_c (w : World) : Calls Try.prog 91 #[] w fun e w' => e = .returned (.int .i64 4) ∧ w = w' := by
  have e1 : bits .xor .u32 IntKind.u32.max 0 = 4294967295 := by decide
  have e2 : IntKind.u32.signed = false := rfl
  go_enter Try.func91, Try.ntmps91
  go_wp2_with (go_at_call 97; refine (len64_32 _).mono ?_; rintro e w' ⟨rfl, rfl⟩)
  go_ret
  exact ⟨rfl, rfl⟩
theorem width8_c (w : World) : Calls Try.prog 103 #[] w fun e w' => e = .returned (.int .i64 1) ∧ w = w' := by
  have e1 : bits .xor .u8 IntKind.u8.max 0 = 255 := by decide
  have e2 : IntKind.u8.signed = false := rfl
  go_enter Try.func103, Try.ntmps103
  go_wp2_with (go_at_call 97; refine (len64_8 _).mono ?_; rintro e w' ⟨rfl, rfl⟩)
  go_ret
  exact ⟨rfl, rfl⟩

/-! ### a number's four bytes, the lowest first -/
def by8 (x : UInt32) (k : Nat) : UInt8 := UInt8.ofNat (x.toNat / 2 ^ (8 * k))
def le4 (x : UInt32) : List UInt8 := [by8 x 0, by8 x 1, by8 x 2, by8 x 3]
def sh64 (x : UInt32) (k : Nat) : Int := ((x.toNat / 2 ^ (8 * k) : Nat) : Int)
theorem s_shr64 (x : UInt32) (k : Nat) (hk : k < 8) (yk : IntKind) : Op.shift .shr .u64 (w32 x) yk (8 * (k : Int)) = pure (.int .u64 (sh64 x k)) := by
  rw [shift_shr_any _ _ _ _ (by omega)]
  congr 2
  unfold w32 sh64
  rw [show (8 * (k : Int)).toNat = 8 * k by omega, show min (8 * k) IntKind.u64.bits = 8 * k from Nat.min_eq_left (by show 8 * k ≤ 64; omega)]
  simp
theorem sh64_u8 (x : UInt32) (k : Nat) : IntKind.u8.wrap (sh64 x k) = b8 (by8 x k) := by
  rw [IntKind.wrap_u8]
  unfold sh64 by8 b8
  rw [UInt8.toNat_ofNat']
  omega
theorem w32_u64 (x : UInt32) : IntKind.u64.wrap (w32 x) = w32 x := IntWalk.u64_in _ (by have := u32_r x; omega)
theorem le4_take (x : UInt32) (k : Nat) (h : k < 4) : (le4 x).take (k + 1) = (le4 x).take k ++ [by8 x k] := by
  match k, h with
  | 0, _ => rfl
  | 1, _ => rfl
  | 2, _ => rfl
  | 3, _ => rfl
attribute [local go_sem] w32_u64
set_option maxRecDepth 8000 in
theorem put32_c (x : UInt32) (v : Value) (bs : List UInt8) (w : World) (hv : SlV vB w v bs) (hn : bs.length ≤ 70368744177664) :
    Calls Try.prog 75 #[v, .int .u32 (w32 x)] w fun e w' => ∃ v', e = .returned v' ∧ OwnS vB 5 w' w.heap.size v' (bs ++ le4 x) ∧ Ext w w' := by
  have HV := Lib.hid hv; clear hv
  go_enter Try.func75, Try.ntmps75
  go_wp2_with (first | (go_at_call 71; with_reducible refine (bclone_c _ _ _ HV.out (by omega)).mono ?_; rintro e w1 ⟨v1, rfl, ho, hE⟩) | (go_at_call 91; refine (width32_c _).mono ?_; rintro e w2 ⟨rfl, rfl⟩))
  go_loopw [5, 10] (fun s i wr => ∃ (k : Nat) (v : Value), k ≤ 4 ∧ i = .int .i64 k ∧ s = v ∧ Hid (OwnS vB 5 wr w.heap.size v (bs ++ (le4 x).take k)) ∧ Hid (Ext w wr)) (fun _ i _ => 4 - (intOf i).toNat)
  case atStart => exact ⟨0, _, by omega, rfl, rfl, by simpa using Lib.hid ho, Lib.hid hE⟩
  case round =>
    clear ho hE
    obtain ⟨k, v, hk, rfl, rfl, HO, HE⟩ := hrel
    by_cases hlt : k < 4
    · go_wp2_with (refine wpList_append_S (enc := vB) (fun _ _ => rfl) rfl (.tmp 13) (.tmp 20) 22 5 _ 1 w.heap.size rfl Try.underlying22 info8 rfl (v := u5) rfl (HO.out.ext ((Ext.refl _).al _)) (ys := [by8 x k]) rfl rfl (OwnS.lit (base := 0) (xs := [by8 x k]) wr (Nat.zero_le _) (by simp [maxLen])).rd (by simp [maxLen]; omega) (by simp; omega) (by simp; exact Nat.le_succ_of_le HE.out.size) ?_; intro v1 w1 ho hg ha)
      refine ⟨⟨k + 1, v1, by omega, by go_num, rfl, ?_, Lib.hid ((HE.out.al _).gr hg HO.out.ge)⟩, by simp [intOf]; omega⟩
      rw [le4_take x k hlt, ← List.append_assoc]; exact Lib.hid ho
    · obtain rfl : k = 4 := by omega
      go_wp2
      go_ret
      exact ⟨_, rfl, HO.out, HE.out⟩
end Go.Proofs.Ytmcgcfbdofpfdaa
