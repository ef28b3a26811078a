/- The plain laws of the field of 256: the product is bilinear, commutative, associative; powers; inverses. -/
import Derived.Test.YtmcgcfbdofpfdaaGf
namespace Go.Proofs.Ytmcgcfbdofpfdaa

def fb (i : Nat) : UInt8 := UInt8.ofNat (2 ^ i)
theorem x_ac (a b c d : UInt8) : (a ^^^ b) ^^^ (c ^^^ d) = (a ^^^ c) ^^^ (b ^^^ d) := by
  rw [UInt8.xor_assoc, ← UInt8.xor_assoc b c d, UInt8.xor_comm b c, UInt8.xor_assoc c b d, ← UInt8.xor_assoc]
theorem tb_xor (a b : UInt8) (i : Nat) : tb (a ^^^ b) i = (tb a i ^^ tb b i) := by
  unfold tb; rw [UInt8.toNat_xor, Nat.testBit_xor]
theorem ge128 (x : UInt8) : (x ≥ 128) = (tb x 7 = true) := by
  have h : ∀ n : Fin 256, decide (UInt8.ofNat n.val ≥ 128) = tb (UInt8.ofNat n.val) 7 := by decide +kernel
  have := all8 (P := fun x => decide (x ≥ 128) = tb x 7) h x
  rw [← this]; simp
theorem xt_add (a b : UInt8) : xt (a ^^^ b) = xt a ^^^ xt b := by
  have hs : (a ^^^ b) <<< 1 = (a <<< 1) ^^^ (b <<< 1) := by
    apply UInt8.toBitVec_inj.1
    simp only [UInt8.toBitVec_shiftLeft, UInt8.toBitVec_xor, BitVec.shiftLeft_eq']
    exact BitVec.shiftLeft_xor_distrib ..
  unfold xt
  simp only [ge128, tb_xor, hs]
  cases tb a 7 <;> cases tb b 7 <;> simp
  · rw [UInt8.xor_assoc]
  · rw [UInt8.xor_assoc, UInt8.xor_comm (b <<< 1), ← UInt8.xor_assoc]
  · rw [x_ac]; simp
theorem xtI_add (n : Nat) (a b : UInt8) : xtI n (a ^^^ b) = xtI n a ^^^ xtI n b := by
  induction n with
  | zero => rfl
  | succ n ih => simp only [xtI, ih, xt_add]
theorem gmulTo_addl (a a' b : UInt8) (k : Nat) : gmulTo (a ^^^ a') b k = gmulTo a b k ^^^ gmulTo a' b k := by
  induction k with
  | zero => simp [gmulTo]
  | succ k ih =>
    simp only [gmulTo, ih, xtI_add]
    cases tb b k <;> simp
    rw [x_ac]
theorem gmulTo_addr (a b b' : UInt8) (k : Nat) : gmulTo a (b ^^^ b') k = gmulTo a b k ^^^ gmulTo a b' k := by
  induction k with
  | zero => simp [gmulTo]
  | succ k ih =>
    simp only [gmulTo, ih, tb_xor]
    cases tb b k <;> cases tb b' k <;> simp
    · rw [UInt8.xor_assoc]
    · rw [UInt8.xor_assoc, UInt8.xor_comm (gmulTo a b' k), ← UInt8.xor_assoc]
    · rw [x_ac]; simp
theorem gmul_addl (a a' b : UInt8) : gmul (a ^^^ a') b = gmul a b ^^^ gmul a' b := gmulTo_addl a a' b 8
theorem gmul_addr (a b b' : UInt8) : gmul a (b ^^^ b') = gmul a b ^^^ gmul a b' := gmulTo_addr a b b' 8
/-- A byte is the sum of its bits. -/
def bitsTo (x : UInt8) : Nat → UInt8
  | 0 => 0
  | i + 1 => if tb x i then bitsTo x i ^^^ fb i else bitsTo x i
theorem bits_all (x : UInt8) : bitsTo x 8 = x := all8 (P := fun x => bitsTo x 8 = x) (by decide +kernel) x
theorem ext_lin (f g : UInt8 → UInt8) (hf : ∀ a b, f (a ^^^ b) = f a ^^^ f b) (hg : ∀ a b, g (a ^^^ b) = g a ^^^ g b) (h : ∀ i, i < 8 → f (fb i) = g (fb i)) (x : UInt8) : f x = g x := by
  have f0 : f 0 = 0 := by have := hf 0 0; simpa using this
  have g0 : g 0 = 0 := by have := hg 0 0; simpa using this
  have key : ∀ k, k ≤ 8 → f (bitsTo x k) = g (bitsTo x k) := by
    intro k hk
    induction k with
    | zero => simp [bitsTo, f0, g0]
    | succ k ih =>
      simp only [bitsTo]
      cases tb x k
      · simpa using ih (by omega)
      · simp [hf, hg, ih (by omega), h k (by omega)]
  have := key 8 (by omega)
  rwa [bits_all] at this
theorem gmul_comm (a b : UInt8) : gmul a b = gmul b a := by
  refine ext_lin (fun a => gmul a b) (fun a => gmul b a) (fun x y => gmul_addl x y b) (fun x y => gmul_addr b x y) (fun i hi => ?_) a
  refine ext_lin (fun b => gmul (fb i) b) (fun b => gmul b (fb i)) (fun x y => gmul_addr _ x y) (fun x y => gmul_addl x y _) (fun j hj => ?_) b
  have h : ∀ i j : Fin 8, gmul (fb i.val) (fb j.val) = gmul (fb j.val) (fb i.val) := by decide +kernel
  exact h ⟨i, hi⟩ ⟨j, hj⟩
theorem gmul_assoc (a b c : UInt8) : gmul (gmul a b) c = gmul a (gmul b c) := by
  refine ext_lin (fun a => gmul (gmul a b) c) (fun a => gmul a (gmul b c)) (fun x y => by simp only [gmul_addl]) (fun x y => by simp only [gmul_addl]) (fun i hi => ?_) a
  refine ext_lin (fun b => gmul (gmul (fb i) b) c) (fun b => gmul (fb i) (gmul b c)) (fun x y => by simp only [gmul_addr, gmul_addl]) (fun x y => by simp only [gmul_addr, gmul_addl]) (fun j hj => ?_) b
  refine ext_lin (fun c => gmul (gmul (fb i) (fb j)) c) (fun c => gmul (fb i) (gmul (fb j) c)) (fun x y => by simp only [gmul_addr]) (fun x y => by simp only [gmul_addr]) (fun k hk => ?_) c
  have h : ∀ i j k : Fin 8, gmul (gmul (fb i.val) (fb j.val)) (fb k.val) = gmul (fb i.val) (gmul (fb j.val) (fb k.val)) := by decide +kernel
  exact h ⟨i, hi⟩ ⟨j, hj⟩ ⟨k, hk⟩
theorem gmul_one (a : UInt8) : gmul a 1 = a := all8 (P := fun a => gmul a 1 = a) (by decide +kernel) a
theorem one_gmul (a : UInt8) : gmul 1 a = a := by rw [gmul_comm, gmul_one]
theorem gmul_zero (a : UInt8) : gmul a 0 = 0 := by have := gmul_addr a 0 0; simpa using this
theorem zero_gmul (a : UInt8) : gmul 0 a = 0 := by rw [gmul_comm, gmul_zero]
/-- Powers. -/
def gpow (a : UInt8) : Nat → UInt8
  | 0 => 1
  | n + 1 => gmul (gpow a n) a
theorem gpow_add (a : UInt8) (m n : Nat) : gpow a (m + n) = gmul (gpow a m) (gpow a n) := by
  induction n with
  | zero => simp [gpow, gmul_one]
  | succ n ih => rw [← Nat.add_assoc]; simp only [gpow, ih, gmul_assoc]
theorem gpow_sq (a : UInt8) (n : Nat) : gpow (gmul a a) n = gpow a (n + n) := by
  induction n with
  | zero => rfl
  | succ n ih =>
    rw [show n + 1 + (n + 1) = (n + n) + 1 + 1 by omega]
    simp only [gpow, ih, gmul_assoc]
theorem gpow_mul (a : UInt8) (m n : Nat) : gpow a (m * n) = gpow (gpow a m) n := by
  induction n with
  | zero => rfl
  | succ n ih => rw [Nat.mul_succ, gpow_add, ih]; rfl
theorem gpow_one (n : Nat) : gpow 1 n = 1 := by
  induction n with
  | zero => rfl
  | succ n ih => simp only [gpow, ih]; rfl
end Go.Proofs.Ytmcgcfbdofpfdaa
