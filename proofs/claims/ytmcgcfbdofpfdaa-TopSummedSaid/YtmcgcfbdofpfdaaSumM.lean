/- Plain laws of the sums: put together, joined, spoilt. -/
import Derived.Test.YtmcgcfbdofpfdaaFrameC
import Derived.Test.YtmcgcfbdofpfdaaCrcD
namespace Go.Proofs.Ytmcgcfbdofpfdaa
theorem overW_append (r : UInt32) (a b : List UInt8) : overW r (a ++ b) = overW (overW r a) b := by simp [overW, List.foldl_append]
theorem x32 (x y : UInt8) : (x ^^^ y).toUInt32 = x.toUInt32 ^^^ y.toUInt32 := by
  apply UInt32.toNat_inj.1
  simp
theorem overW_xor : ∀ (a b : List UInt8) (r s : UInt32), a.length = b.length → overW (r ^^^ s) (List.zipWith (· ^^^ ·) a b) = overW r a ^^^ overW s b
  | [], [], _, _, _ => rfl
  | x :: a, y :: b, r, s, h => by
    have ih := overW_xor a b (step4 (step4 (r ^^^ x.toUInt32))) (step4 (step4 (s ^^^ y.toUInt32))) (by simpa using h)
    have e : step4 (step4 ((r ^^^ s) ^^^ (x ^^^ y).toUInt32)) = step4 (step4 (r ^^^ x.toUInt32)) ^^^ step4 (step4 (s ^^^ y.toUInt32)) := by
      rw [x32, xor_ac, step4_xor, step4_xor]
    show overW (step4 (step4 ((r ^^^ s) ^^^ (x ^^^ y).toUInt32))) (List.zipWith (· ^^^ ·) a b) = _
    rw [e, ih]
    rfl
theorem overW_zeros : ∀ (n : Nat) (r : UInt32), overW r (List.replicate n 0) = itW n r
  | 0, r => rfl
  | n + 1, r => by
    have h := overW_zeros n
    rw [List.replicate_succ', overW_append, h, over_zero, show n + 1 = 1 + n from by omega, itW_add, itW_one]
theorem zip_zeros (p : List UInt8) : List.zipWith (· ^^^ ·) p (List.replicate p.length 0) = p := by
  apply List.ext_getElem
  · simp
  · intro i h1 h2; simp
theorem not_not32 (x : UInt32) : ~~~ (~~~ x) = x := by simp
theorem xor_not (a b : UInt32) : ~~~ (a ^^^ b) = ~~~ a ^^^ b := by
  apply UInt32.toBitVec_inj.1
  simp only [UInt32.toBitVec_not, UInt32.toBitVec_xor]
  apply BitVec.eq_of_getLsbD_eq
  intro i hi
  simp [hi]
theorem sum_join (x p : List UInt8) : joinW (sumW x) (sumW p) p.length = sumW (x ++ p) := by
  have h1 : overW (~~~ 0) x = ~~~ 0 ^^^ sumW x := by
    show overW (~~~ 0) x = ~~~ 0 ^^^ ~~~ overW (~~~ 0) x
    rw [show (~~~ (0 : UInt32)) ^^^ ~~~ overW (~~~ 0) x = ~~~ (0 ^^^ ~~~ overW (~~~ 0) x) from (xor_not 0 _).symm]
    simp
  have h2 : overW (~~~ 0 ^^^ sumW x) p = overW (~~~ 0) p ^^^ itW p.length (sumW x) := by
    have := overW_xor p (List.replicate p.length 0) (~~~ 0) (sumW x) (by simp)
    rw [zip_zeros, overW_zeros] at this
    exact this
  show itW (p.length : Int).toNat (sumW x) ^^^ sumW p = ~~~ overW (~~~ 0) (x ++ p)
  rw [overW_append, h1, h2, xor_not, Int.toNat_natCast, UInt32.xor_comm]
  rfl
theorem sum_more (x p : List UInt8) : moreW (sumW x) p = sumW (x ++ p) := moreW_append 0 x p
theorem sum_take (b : List UInt8) (n m : Nat) : moreW (sumW (b.take n)) ((b.drop n).take m) = sumW (b.take (n + m)) := by
  rw [sum_more, List.take_add]
theorem join_take (b : List UInt8) (n m : Nat) (h : n + m ≤ b.length) : joinW (sumW (b.take n)) (sumW ((b.drop n).take m)) m = sumW (b.take (n + m)) := by
  have := sum_join (b.take n) ((b.drop n).take m)
  rw [show ((b.drop n).take m).length = m from by simp; omega] at this
  rw [this, List.take_add]
theorem sum_nil : sumW [] = 0 := by decide
def padZ (p : List UInt8) (n : Nat) : List UInt8 := p ++ List.replicate (n - p.length) 0
theorem padZ_len (p : List UInt8) (n : Nat) (h : p.length ≤ n) : (padZ p n).length = n := by simp [padZ]; omega
def spoilL (b p : List UInt8) : List UInt8 := List.zipWith (· ^^^ ·) b (padZ p b.length)
theorem spoilL_len (b p : List UInt8) (h : p.length ≤ b.length) : (spoilL b p).length = b.length := by simp [spoilL, padZ_len p _ h]
theorem spoil_seen (b p : List UInt8) (h : p.length ≤ b.length) : (w32 (sumW (spoilL b p)) == w32 (sumW b)) = decide (overW 0 (padZ p b.length) = 0) := by
  have e : overW (~~~ 0) (spoilL b p) = overW (~~~ 0) b ^^^ overW 0 (padZ p b.length) := by
    have := overW_xor b (padZ p b.length) (~~~ 0) 0 (by rw [padZ_len p _ h])
    simpa [spoilL] using this
  have e2 : sumW (spoilL b p) = sumW b ^^^ overW 0 (padZ p b.length) := by
    show ~~~ overW (~~~ 0) (spoilL b p) = ~~~ overW (~~~ 0) b ^^^ _
    rw [e, xor_not]
  rw [u32_beq, e2]
  generalize sumW b = s
  generalize overW 0 (padZ p b.length) = t
  by_cases ht : t = 0
  · subst ht; simp
  · have hne : ¬ (s ^^^ t = s) := fun h => ht (by
      have : s ^^^ (s ^^^ t) = s ^^^ s := by rw [h]
      rw [← UInt32.xor_assoc] at this
      simpa using this)
    simp [ht, hne]
theorem blind5 : overW 0 [241, 118, 236, 5, 1] = 0 := by decide +kernel
end Go.Proofs.Ytmcgcfbdofpfdaa
