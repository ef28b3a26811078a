/- The walks of the field's sums of rows and of products; the field of two. -/
import Derived.Test.YtmcgcfbdofpfdaaFieldC
namespace Go.Proofs.Ytmcgcfbdofpfdaa
open Go.RowKit
attribute [local irreducible] gmul gpow ginv
attribute [local go_sem] b_xor u8_u8
def xorL (a b : List UInt8) : List UInt8 := List.zipWith (· ^^^ ·) a b
theorem sum_f_no (v v' : Value) (a b : List UInt8) (w : World) (hv : SlV vB w v a) (hv' : SlV vB w v' b) (hne : a.length ≠ b.length) :
    Calls Try.prog 31 #[v, v'] w fun e w' => e = .returned (.tuple #[.slice none 0 0, .int .i64 11]) ∧ w = w' := by
  obtain ⟨A, cp, rfl, hlc, hcm, hr⟩ := hv
  obtain ⟨A', cp', rfl, hlc', hcm', hr'⟩ := hv'
  clear hr hr'
  have e1 : ((a.length : Int) != (b.length : Int)) = true := by rw [bne_iff_ne]; omega
  have e2 : (a.length != b.length) = true := by rw [bne_iff_ne]; exact hne
  clear hne
  go_enter Try.func31, Try.ntmps31
  go_wp2
  go_ret2
  exact ⟨rfl, rfl⟩
set_option maxRecDepth 8000 in
theorem sum_f_yes (v v' : Value) (a b : List UInt8) (w : World) (hv : SlV vB w v a) (hv' : SlV vB w v' b) (heq : a.length = b.length) (hn : a.length ≤ 281474976710656) :
    Calls Try.prog 31 #[v, v'] w fun e w' => ∃ v'', e = .returned (.tuple #[v'', .int .i64 0]) ∧ OwnS vB 5 w' w.heap.size v'' (xorL a b) ∧ Ext w w' := by
  obtain ⟨A, cp, rfl, hlc, hcm, hr⟩ := hv
  obtain ⟨A', cp', rfl, hlc', hcm', hr'⟩ := hv'
  unfold maxLen at hcm hcm'
  have HR := Lib.hid hr; clear hr
  have HR' := Lib.hid hr'; clear hr'
  obtain ⟨ys, hys⟩ : ∃ ys, ys = xorL a b := ⟨_, rfl⟩
  have hyl : ys.length = a.length := by rw [hys]; simp [xorL]; omega
  have HL := Lib.hid hyl; clear hyl
  have e1 : ((a.length : Int) != (b.length : Int)) = false := by rw [bne_eq_false_iff_eq]; omega
  have e2 : (a.length != b.length) = false := by rw [bne_eq_false_iff_eq]; exact heq
  have HQ := Lib.hid heq; clear heq
  go_enter Try.func31, Try.ntmps31
  go_wp2_with (refine wpList_make_S (enc := vB) 0 rfl rfl (.tmp 14) (.tmp 14) 22 5 1 w.heap.size rfl Try.underlying22 info8' a.length rfl rfl rfl rfl (by omega) (by unfold maxLen; omega) (Nat.le_refl _) ?_; intro w1 ho hE)
  clear e1 e2
  go_loopw [18] (fun i wr => ∃ k : Nat, k ≤ a.length ∧ i = .int .i64 k ∧ Hid (OwnS vB 5 wr w.heap.size (.slice (some ⟨w.heap.size, 0, none⟩) a.length a.length) (fillTo ys 0 k)) ∧ Hid (Ext w wr)) (fun i _ => a.length - (intOf i).toNat)
  case atStart => exact ⟨0, by omega, rfl, by rw [fillTo_zero, HL.out]; exact Lib.hid ho, Lib.hid hE⟩
  case round =>
    clear ho hE
    obtain ⟨k, hk, rfl, HO, HE⟩ := hrel
    by_cases hlt : k < a.length
    · have hlt' : k < b.length := by have := HQ.out; omega
      obtain ⟨b1, o, rfl, hbl, hcell⟩ := HR.out.at_ hlt
      obtain ⟨b2, o2, rfl, hbl', hcell'⟩ := HR'.out.at_ hlt'
      have hc2 := HE.out.cl hcell
      have hc2' := HE.out.cl hcell'
      clear hcell hcell'
      obtain ⟨g, hg, hg1, hg2, hc3, hf3, hs3⟩ := HO.out.at_ (k := k) (by rw [fillTo_length, HL.out]; exact hlt)
      injection hg with hg
      injection hg with hg
      subst hg
      unfold vB at hc2 hc2' hc3
      have HS := Lib.hid hs3; clear hs3
      have q6 : (0 : Int) ≤ (k : Int) := by omega
      have q5 : (k : Int) < a.length := by omega
      have q4 : (k : Int) < b.length := by omega
      go_wp2
      go_still_tail 12, (by kernel_rfl)
      change wpList _ _ _ _ _ wr.drew
      go_wp2
      refine ⟨⟨k + 1, by omega, by go_num, ?_, Lib.hid (HE.out.dr.set (Nat.le_refl _) _)⟩, by simp [intOf]; omega⟩
      have h := HS.out (ys[k]'(by rw [HL.out]; exact hlt))
      rw [fillTo_set _ _ _ (by rw [HL.out]; exact hlt)] at h
      simp only [hys, xorL, List.getElem_zipWith] at h ⊢
      exact Lib.hid h
    · obtain rfl : k = a.length := by omega
      go_wp2
      go_ret2
      refine ⟨_, rfl, ?_, HE.out⟩
      have h := HO.out
      rw [← HL.out, fillTo_all, hys] at h
      rw [← HL.out, hys]; exact h

/-- The sum of the products. -/
def dotL (a b : List UInt8) : UInt8 := (List.zipWith gmul a b).foldl (· ^^^ ·) 0
theorem dotL_succ (a b : List UInt8) (k : Nat) (h : k < a.length) (h' : k < b.length) : dotL (a.take (k + 1)) (b.take (k + 1)) = dotL (a.take k) (b.take k) ^^^ gmul a[k] b[k] := by
  unfold dotL
  rw [List.take_succ_eq_append_getElem h, List.take_succ_eq_append_getElem h', List.zipWith_append (by simp; omega), List.foldl_append]
  rfl
theorem dot_no (v v' : Value) (a b : List UInt8) (w : World) (hv : SlV vB w v a) (hv' : SlV vB w v' b) (hne : a.length ≠ b.length) :
    Calls Try.prog 32 #[v, v'] w fun e w' => e = .returned (.tuple #[.int .u8 0, .int .i64 11]) ∧ w = w' := by
  obtain ⟨A, cp, rfl, hlc, hcm, hr⟩ := hv
  obtain ⟨A', cp', rfl, hlc', hcm', hr'⟩ := hv'
  clear hr hr'
  have e1 : ((a.length : Int) != (b.length : Int)) = true := by rw [bne_iff_ne]; omega
  have e2 : (a.length != b.length) = true := by rw [bne_iff_ne]; exact hne
  clear hne
  go_enter Try.func32, Try.ntmps32
  go_wp2
  go_ret2
  exact ⟨rfl, rfl⟩
set_option maxRecDepth 8000 in
theorem dot_yes (v v' : Value) (a b : List UInt8) (w : World) (hv : SlV vB w v a) (hv' : SlV vB w v' b) (heq : a.length = b.length) :
    Calls Try.prog 32 #[v, v'] w fun e w' => e = .returned (.tuple #[.int .u8 (b8 (dotL a b)), .int .i64 0]) ∧ ∃ n, w' = w.drewN n := by
  obtain ⟨A, cp, rfl, hlc, hcm, hr⟩ := hv
  obtain ⟨A', cp', rfl, hlc', hcm', hr'⟩ := hv'
  unfold maxLen at hcm hcm'
  have HR := Lib.hid hr; clear hr
  have HR' := Lib.hid hr'; clear hr'
  have e1 : ((a.length : Int) != (b.length : Int)) = false := by rw [bne_eq_false_iff_eq]; omega
  have e2 : (a.length != b.length) = false := by rw [bne_eq_false_iff_eq]; exact heq
  have HQ := Lib.hid heq; clear heq
  go_enter Try.func32, Try.ntmps32
  go_wp2
  clear e1 e2
  go_loopw [6, 15] (fun s i wr => ∃ k : Nat, k ≤ a.length ∧ i = .int .i64 k ∧ s = .int .u8 (b8 (dotL (a.take k) (b.take k))) ∧ ∃ n, wr = w.drewN n) (fun _ i _ => a.length - (intOf i).toNat)
  case atStart => exact ⟨0, by omega, rfl, rfl, 0, rfl⟩
  case round =>
    obtain ⟨k, hk, rfl, rfl, n, rfl⟩ := hrel
    by_cases hlt : k < a.length
    · have hlt' : k < b.length := by have := HQ.out; omega
      obtain ⟨b1, o, rfl, hbl, hcell⟩ := HR.out.at_ hlt
      obtain ⟨b2, o2, rfl, hbl', hcell'⟩ := HR'.out.at_ hlt'
      unfold vB at hcell hcell'
      have q6 : (0 : Int) ≤ (k : Int) := by omega
      have q5 : (k : Int) < a.length := by omega
      have q4 : (k : Int) < b.length := by omega
      have ht := fun W => times_c a[k] b[k] W
      have HT := Lib.hid ht; clear ht
      go_wp2
      go_quiet ((go_at_call 21; first | exact quiet_l HT.out _ _ | exact quiet_l0 HT.out _))
      clear q4 q5 q6
      go_wp2
      refine ⟨⟨k + 1, by omega, by go_num, ?_, _, rfl⟩, by simp [intOf]; omega⟩
      rw [dotL_succ a b k hlt hlt']
    · obtain rfl : k = a.length := by omega
      go_wp2
      go_ret2
      exact ⟨by rw [List.take_length, HQ.out, List.take_length]; rfl, _, rfl⟩
/-! ### the field of two -/
theorem bplus_c (a b : Bool) (w : World) : Calls Try.prog 34 #[.bool a, .bool b] w fun e w' => e = .returned (.bool (a != b)) ∧ w = w' := by
  go_enter Try.func34, Try.ntmps34
  go_wp2
  go_ret
  exact ⟨rfl, rfl⟩
theorem btimes_c (a b : Bool) (w : World) : Calls Try.prog 35 #[.bool a, .bool b] w fun e w' => e = .returned (.bool (a && b)) ∧ w = w' := by
  cases a <;> cases b
  all_goals
    go_enter Try.func35, Try.ntmps35
    go_wp2
    go_ret
    exact ⟨rfl, rfl⟩
theorem binv_c (a : Bool) (w : World) : Calls Try.prog 33 #[.bool a] w fun e w' => e = .returned (.tuple #[.bool a, .bool a]) ∧ w = w' := by
  go_enter Try.func33, Try.ntmps33
  go_wp2
  go_ret2
  exact ⟨rfl, rfl⟩
theorem bisz_c (a : Bool) (w : World) : Calls Try.prog 36 #[.bool a] w fun e w' => e = .returned (.bool (!a)) ∧ w = w' := by
  go_enter Try.func36, Try.ntmps36
  go_wp2
  go_ret
  exact ⟨rfl, rfl⟩
end Go.Proofs.Ytmcgcfbdofpfdaa
