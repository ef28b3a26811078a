/- The walks of the field's logarithms, orders and rows; the field of two. -/
import Derived.Test.YtmcgcfbdofpfdaaFieldA
namespace Go.Proofs.Ytmcgcfbdofpfdaa
open Go.RowKit
def powTo (k : Nat) : List Value := (List.range 255).map fun j => .int .u8 (b8 (if j ≤ k then gpow 2 j else 0))
set_option maxRecDepth 8000 in
theorem powTo_zero : powTo 0 = .int .u8 1 :: List.replicate 254 (.int .u8 0) := by kernel_rfl
attribute [local irreducible] gmul gpow ginv
attribute [local go_sem] b_xor b_eq0 b_eq1 u8_u8
theorem powTo_size (k : Nat) : (powTo k).toArray.size = 255 := by simp [powTo]
theorem powTo_get (k j : Nat) (hj : j < 255) : (powTo k).toArray[j]? = some (.int .u8 (b8 (if j ≤ k then gpow 2 j else 0))) := by simp [powTo, hj]
theorem powTo_succ (k : Nat) : (powTo k).toArray.setIfInBounds (k + 1) (.int .u8 (b8 (gmul (gpow 2 k) 2))) = (powTo (k+1)).toArray := by
  apply Array.ext
  · simp [powTo]
  · intro i h1 h2
    simp [powTo]
    by_cases h : k + 1 = i
    · subst h; simp [gpow]
    · simp [h]
      by_cases h' : i ≤ k
      · simp [h', show i ≤ k+1 by omega]
      · simp [h', show ¬ i ≤ k+1 by omega]
set_option maxRecDepth 8000 in
theorem powers_c (w : World) : Calls Try.prog 53 #[] w fun e w' => ∃ g, e = .returned (.pointer (some ⟨g, 0, none⟩)) ∧ w'.heap[g]? = some (.cells (powTo 254).toArray 135 (0, 0)) ∧ Ext w w' := by
  have ht : ∀ (a : UInt8) (w : World), Calls Try.prog 21 #[.int .u8 (b8 a), .int .u8 2] w fun e w' => e = .returned (.int .u8 (b8 (gmul a 2))) ∧ w = w' := fun a w => times_c a 2 w
  have HT := Lib.hid ht; clear ht
  go_enter Try.func53, Try.ntmps53
  go_wp2
  go_loopw [7] (fun i wr => ∃ k : Nat, k ≤ 254 ∧ i = .int .i64 k ∧ wr.heap[w.heap.size]? = some (.cells (powTo k).toArray 135 (0,0)) ∧ Ext w wr) (fun i _ => 254 - (intOf i).toNat)
  case atStart => exact ⟨0, by omega, rfl, (heap_alloc_new w _).trans (by rw [powTo_zero]; kernel_rfl), (Ext.refl w).al _⟩
  case round =>
    obtain ⟨k, hk, rfl, hb, hE⟩ := hrel
    have HE := Lib.hid hE; clear hE
    by_cases hlt : k < 254
    · have hc : wr.cell? ⟨w.heap.size, k, none⟩ = some (.int .u8 (b8 (gpow 2 k))) := by rw [blk_cell hb, powTo_get k k (by omega)]; simp
      have hc2 := (blk_cell hb (k + 1)).trans (powTo_get k (k + 1) (by omega))
      have hf := blk_fr hb (k + 1)
      have HB := Lib.hid hb; clear hb
      have q1 : IntKind.i64.wrap ((k : Int) + 1) = (k : Int) + 1 := IntWalk.i64_in _ (by omega)
      have q2 : (0 : Int) ≤ (k : Int) + 1 := by omega
      have q3 : ((k : Int) + 1).toNat = k + 1 := by omega
      have q4 : (k : Int) + 1 < 255 := by omega
      have q5 : (k : Int) < 255 := by omega
      have q6 : (0 : Int) ≤ (k : Int) := by omega
      go_wp2
      go_still_tail 11, (by kernel_rfl)
      still_call ((HT.out _ _).mono fun _ _ h => ⟨h.1, h.2.symm⟩)
      repeat still_step
      refine wpStill_nil ?_
      change wpList _ _ _ _ _ wr.drew
      clear q1 q2 q3 q4 q5 q6
      go_wp2
      exact ⟨⟨k + 1, by omega, by go_num, (blk_set (w := wr.drew) HB.out _ _).trans (congrArg (fun c => some (Obj.cells c 135 (0,0))) (powTo_succ k)), HE.out.dr.set (by simp) _⟩, by simp [intOf]; omega⟩
    · obtain rfl : k = 254 := by omega
      go_wp2
      go_ret
      exact ⟨_, rfl, hb, HE.out⟩

/-- The logarithm: the least power of the generator that an element is. -/
theorem glog_ex (a : UInt8) (h : a ≠ 0) : ∃ n, n < 255 ∧ gpow 2 n = a ∧ ∀ m, m < n → gpow 2 m ≠ a := by
  obtain ⟨n, hn, e⟩ := exps_all a h
  induction n using Nat.strongRecOn with
  | ind n ih =>
    by_cases h1 : ∃ m, m < n ∧ gpow 2 m = a
    · obtain ⟨m, hm, e1⟩ := h1
      exact ih m hm (by omega) e1
    · exact ⟨n, hn, e, fun m hm e1 => h1 ⟨m, hm, e1⟩⟩
theorem pow_ne_zero (n : Nat) (h : n < 255) : gpow 2 n ≠ 0 := by
  intro e
  have h1 : gpow 2 (n + (255 - n)) = 1 := by rw [show n + (255 - n) = 255 by omega]; exact pow255 2 (by decide)
  rw [gpow_add, e, zero_gmul] at h1
  exact absurd h1 (by decide)
def LogTold (a : UInt8) (e : Ending) : Prop := (a = 0 ∧ e = .returned (.tuple #[.int .i64 0, .int .i64 10])) ∨ (∃ n : Nat, a ≠ 0 ∧ e = .returned (.tuple #[.int .i64 n, .int .i64 0]) ∧ n < 255 ∧ gpow 2 n = a ∧ ∀ m, m < n → gpow 2 m ≠ a)
theorem b8_beq (a b : UInt8) : (b8 a == b8 b) = decide (a = b) := by
  rw [Bool.eq_iff_iff, beq_iff_eq, decide_eq_true_eq]; exact u8_inj
attribute [local go_sem] b8_beq
set_option maxRecDepth 8000 in
theorem log_c (a : UInt8) (w : World) : Calls Try.prog 28 #[.int .u8 (b8 a)] w fun e w' => LogTold a e ∧ Ext w w' := by
  have hx := fun (h : a ≠ 0) => glog_ex a h
  have HX := Lib.hid hx; clear hx
  go_enter Try.func28, Try.ntmps28
  go_wp2_with (go_at_call 53; with_reducible refine (powers_c _).mono ?_; rintro e w1 ⟨g, rfl, hb, hE⟩)
  have HB := Lib.hid hb; clear hb
  have HE := Lib.hid hE; clear hE
  go_loopw [7] (fun i wr => ∃ k : Nat, k ≤ 255 ∧ i = .int .i64 k ∧ Hid (∀ m, m < k → gpow 2 m ≠ a) ∧ ∃ n, wr = w1.drewN n) (fun i _ => 255 - (intOf i).toNat)
  case atStart => exact ⟨0, by omega, rfl, Lib.hid (fun m h => by omega), 0, rfl⟩
  case round =>
    obtain ⟨k, hk, rfl, HN, n, rfl⟩ := hrel
    by_cases hlt : k < 255
    · have hc : w1.cell? ⟨g, k, none⟩ = some (.int .u8 (b8 (gpow 2 k))) := by rw [blk_cell HB.out, powTo_get 254 k (by omega), if_pos (by omega)]
      generalize hp : gpow 2 k = p at hc
      have HP := Lib.hid hp; clear hp
      by_cases he : p = a
      · have e1 : decide (p = a) = true := by simpa using he
        have HG := Lib.hid he; clear he
        go_wp2
        go_quiet (fail)
        go_wp2
        go_ret2
        exact ⟨.inr ⟨k, fun e => pow_ne_zero k hlt (by rw [HP.out, HG.out, e]), rfl, hlt, HP.out.trans HG.out, HN.out⟩, HE.out.drN _⟩
      · have e1 : decide (p = a) = false := by simpa using he
        have HG := Lib.hid he; clear he
        go_wp2
        go_quiet (fail)
        go_wp2
        exact ⟨⟨k + 1, by omega, by go_num, Lib.hid (fun m hm => by
          by_cases e : m = k
          · subst e; rw [HP.out]; exact HG.out
          · exact HN.out m (by omega)), _, rfl⟩, by simp [intOf]; omega⟩
    · obtain rfl : k = 255 := by omega
      go_wp2
      go_ret2
      refine ⟨.inl ⟨Classical.byContradiction fun h => ?_, rfl⟩, HE.out.drN _⟩
      obtain ⟨n, hn, e, _⟩ := HX.out h
      exact HN.out n hn e
end Go.Proofs.Ytmcgcfbdofpfdaa
