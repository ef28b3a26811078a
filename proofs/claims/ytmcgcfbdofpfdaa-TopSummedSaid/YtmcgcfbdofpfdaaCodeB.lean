/- code.weights: by how much the values at the first places count. -/
import Derived.Test.YtmcgcfbdofpfdaaCodeA
import Derived.Test.YtmcgcfbdofpfdaaFieldA
namespace Go.Proofs.Ytmcgcfbdofpfdaa
open Go.RowKit
attribute [local irreducible] gmul gpow ginv
def allTo (x : Nat) : Nat → UInt8
  | 0 => 1
  | i + 1 => gmul (allTo x i) (UInt8.ofNat (x ^^^ i))
def underTo (x j : Nat) : Nat → UInt8
  | 0 => UInt8.ofNat (x ^^^ j)
  | i + 1 => if i = j then underTo x j i else gmul (underTo x j i) (UInt8.ofNat (i ^^^ j))
def wOf (k x j : Nat) : UInt8 := if underTo x j k = 0 then 0 else gmul (allTo x k) (ginv (underTo x j k))
def weightsL (k x : Nat) : List UInt8 := (List.range k).map (wOf k x)
theorem xor_lt256 {a b : Nat} (h : a < 256) (h' : b < 256) : a ^^^ b < 256 := Nat.xor_lt_two_pow (n := 8) h h'
theorem x_u8 {a b : Nat} (h : a < 256) (h' : b < 256) : bits .xor .i64 (a : Int) (b : Int) = ((a ^^^ b : Nat) : Int) := i64_xor_nat a b (by omega) (by omega)
theorem x_c8 {a b : Nat} (h : a < 256) (h' : b < 256) : IntKind.u8.wrap ((a ^^^ b : Nat) : Int) = b8 (UInt8.ofNat (a ^^^ b)) := u8_ofInt _ (xor_lt256 h h')
set_option maxRecDepth 8000 in
theorem weights_c (k x : Nat) (w : World) (hk1 : 1 ≤ k) (hk : k ≤ 255) (hx : x ≤ 255) :
    Calls Try.prog 86 #[.int .i64 k, .int .i64 x] w fun e w' => ∃ v, e = .returned v ∧ OwnS vB 39 w' w.heap.size v (weightsL k x) ∧ Ext w w' := by
  obtain ⟨W, hW⟩ : ∃ W, W = weightsL k x := ⟨_, rfl⟩
  have hWl : W.length = k := by rw [hW]; simp [weightsL]
  have HWL := Lib.hid hWl; clear hWl
  have HW := Lib.hid hW; clear hW
  go_enter Try.func86, Try.ntmps86
  go_wp2_with fail
  go_loop [5, 12] (fun p i => ∃ j : Nat, j ≤ k ∧ i = .int .i64 j ∧ p = .int .u8 (b8 (allTo x j))) (fun _ i => k - (intOf i).toNat)
  case atStart => exact ⟨0, by omega, rfl, rfl⟩
  case round =>
    obtain ⟨j, hj, rfl, rfl⟩ := hrel
    by_cases hlt : j < k
    · have q1 := x_u8 (a := x) (b := j) (by omega) (by omega)
      have q2 := x_c8 (a := x) (b := j) (by omega) (by omega)
      go_wp2_with (go_at_call 21; with_reducible refine (times_c _ _ _).mono ?_; rintro e w' ⟨rfl, rfl⟩)
      exact ⟨⟨j + 1, by omega, by go_num, by simp [allTo]⟩, by simp [intOf]; omega⟩
    · obtain rfl : j = k := by omega
      go_wp2_with (refine wpList_make_S (enc := vB) 0 rfl rfl (.tmp 22) (.tmp 22) 65 39 1 w.heap.size rfl Try.underlying65 infoEl j rfl rfl rfl rfl (by omega) (by unfold maxLen; omega) (Nat.le_refl _) ?_; intro w1 ho hE)
      go_loopw [25] (fun i wr => ∃ m : Nat, m ≤ j ∧ i = .int .i64 m ∧ Hid (OwnS vB 39 wr w.heap.size (.slice (some ⟨w.heap.size, 0, none⟩) j j) (fillTo W 0 m)) ∧ Hid (Ext w wr)) (fun i _ => j - (intOf i).toNat)
      case atStart => exact ⟨0, by omega, rfl, by rw [fillTo_zero, HWL.out]; exact Lib.hid ho, Lib.hid hE⟩
      case round =>
        clear ho hE hlt
        obtain ⟨m, hm, rfl, HO, HE⟩ := hrel
        by_cases hlt : m < j
        · have q1 := x_u8 (a := x) (b := m) (by omega) (by omega)
          have q2 := x_c8 (a := x) (b := m) (by omega) (by omega)
          go_wp2_with fail
          go_loop [9, 33] (fun p i => ∃ l : Nat, l ≤ j ∧ i = .int .i64 l ∧ p = .int .u8 (b8 (underTo x m l))) (fun _ i => j - (intOf i).toNat)
          case atStart => exact ⟨0, by omega, rfl, by simp [underTo]⟩
          case round =>
            clear q1 q2
            obtain ⟨l, hl, rfl, rfl⟩ := hrel
            by_cases hl2 : l < j
            · by_cases hlm : l = m
              · subst hlm
                go_wp2
                exact ⟨⟨l + 1, by omega, by go_num, by simp [underTo]⟩, by simp [intOf]; omega⟩
              · have q1 := x_u8 (a := l) (b := m) (by omega) (by omega)
                have q2 := x_c8 (a := l) (b := m) (by omega) (by omega)
                have q3 : ((l : Int) != (m : Int)) = true := by simp; omega
                go_wp2_with (go_at_call 21; with_reducible refine (times_c _ _ _).mono ?_; rintro e w' ⟨rfl, rfl⟩)
                exact ⟨⟨l + 1, by omega, by go_num, by simp [underTo, hlm]⟩, by simp [intOf]; omega⟩
            · obtain rfl : l = j := by omega
              obtain ⟨g, hg, hg1, hg2, hc3, hf3, hs3⟩ := HO.out.at_ (k := m) (by rw [fillTo_length, HWL.out]; exact hlt)
              injection hg with hg
              injection hg with hg
              subst hg
              unfold vB at hc3
              have HS := Lib.hid hs3; clear hs3
              go_wp2_with (go_at_call 18; with_reducible refine (over_el_c _ _ _).mono ?_; rintro e w' ⟨rfl, rfl⟩)
              refine ⟨⟨m + 1, by omega, by go_num, ?_, Lib.hid (HE.out.set (Nat.le_refl _) _)⟩, by simp [intOf]; omega⟩
              have h := HS.out (W[m]'(by rw [HWL.out]; exact hlt))
              rw [fillTo_set _ _ _ (by rw [HWL.out]; exact hlt)] at h
              have e : W[m]'(by rw [HWL.out]; exact hlt) = wOf l x m := by simp [HW.out, weightsL]
              rw [e] at h
              exact Lib.hid h
        · obtain rfl : m = j := by omega
          go_wp2
          go_ret
          refine ⟨_, rfl, ?_, HE.out⟩
          have h := HO.out
          rw [← HWL.out, fillTo_all, HWL.out, HW.out] at h
          exact h
end Go.Proofs.Ytmcgcfbdofpfdaa
