/- The plain laws of the field of 256: inverses, the generator's powers, orders. -/
import Derived.Test.YtmcgcfbdofpfdaaGfM
namespace Go.Proofs.Ytmcgcfbdofpfdaa

theorem pow254 (a : UInt8) : gpow a 254 = (let a2 := gmul a a; let a4 := gmul a2 a2; let a8 := gmul a4 a4; let a16 := gmul a8 a8; let a32 := gmul a16 a16; let a64 := gmul a32 a32; let a128 := gmul a64 a64
    gmul (gmul (gmul (gmul (gmul (gmul a2 a4) a8) a16) a32) a64) a128) := by
  have h2 : ∀ n, gpow a (n + n) = gmul (gpow a n) (gpow a n) := fun n => gpow_add a n n
  have e1 : gpow a 1 = a := by simp [gpow, one_gmul]
  have e2 := h2 1; have e4 := h2 2; have e8 := h2 4; have e16 := h2 8; have e32 := h2 16; have e64 := h2 32; have e128 := h2 64
  simp only [Nat.reduceAdd] at e2 e4 e8 e16 e32 e64 e128
  rw [show 254 = 2 + 4 + 8 + 16 + 32 + 64 + 128 from rfl, gpow_add, gpow_add, gpow_add, gpow_add, gpow_add, gpow_add, e128, e64, e32, e16, e8, e4, e2, e1]
def ginv (a : UInt8) : UInt8 := gpow a 254
theorem gmul_inv (a : UInt8) (h : a ≠ 0) : gmul a (ginv a) = 1 := by
  have key : ∀ n : Fin 256, n.val ≠ 0 → gmul (UInt8.ofNat n.val) (let a := UInt8.ofNat n.val; let a2 := gmul a a; let a4 := gmul a2 a2; let a8 := gmul a4 a4; let a16 := gmul a8 a8; let a32 := gmul a16 a16; let a64 := gmul a32 a32; let a128 := gmul a64 a64
    gmul (gmul (gmul (gmul (gmul (gmul a2 a4) a8) a16) a32) a64) a128) = 1 := by decide +kernel
  have h2 := key ⟨a.toNat, a.toNat_lt⟩ (fun e => h (by apply UInt8.toNat_inj.1; simpa using e))
  simp only [UInt8.ofNat_toNat] at h2
  unfold ginv; rw [pow254]; exact h2
theorem inv_gmul (a : UInt8) (h : a ≠ 0) : gmul (ginv a) a = 1 := by rw [gmul_comm, gmul_inv a h]
theorem inv_uniq (a b : UInt8) (h : gmul a b = 1) : b = ginv a := by
  have ha : a ≠ 0 := fun e => by rw [e, zero_gmul] at h; exact absurd h (by decide)
  have : gmul (ginv a) (gmul a b) = gmul (ginv a) 1 := by rw [h]
  rw [← gmul_assoc, inv_gmul a ha, one_gmul, gmul_one] at this
  exact this
theorem gmul_eq_zero (a b : UInt8) : gmul a b = 0 ↔ a = 0 ∨ b = 0 := by
  constructor
  · intro h
    by_cases ha : a = 0
    · exact .inl ha
    · right
      have : gmul (ginv a) (gmul a b) = gmul (ginv a) 0 := by rw [h]
      rwa [← gmul_assoc, inv_gmul a ha, one_gmul, gmul_zero] at this
  · rintro (rfl | rfl)
    · exact zero_gmul _
    · exact gmul_zero _
theorem ginv_ne (a : UInt8) (h : a ≠ 0) : ginv a ≠ 0 := fun e => by
  have := gmul_inv a h
  rw [e, gmul_zero] at this
  exact absurd this (by decide)
theorem pow255 (a : UInt8) (h : a ≠ 0) : gpow a 255 = 1 := by
  show gmul (gpow a 254) a = 1
  exact inv_gmul a h
theorem gpow_mod (a : UInt8) (h : a ≠ 0) (n : Nat) : gpow a (n % 255) = gpow a n := by
  have : n = 255 * (n / 255) + n % 255 := by omega
  conv => rhs; rw [this, gpow_add, gpow_mul, pow255 a h, gpow_one, one_gmul]
def exps : List Nat := [1, 2, 4, 8, 16, 32, 64, 128, 29, 58, 116, 232, 205, 135, 19, 38, 76, 152, 45, 90, 180, 117, 234, 201, 143, 3, 6, 12, 24, 48, 96, 192, 157, 39, 78, 156, 37, 74, 148, 53, 106, 212, 181, 119, 238, 193, 159, 35, 70, 140, 5, 10, 20, 40, 80, 160, 93, 186, 105, 210, 185, 111, 222, 161, 95, 190, 97, 194, 153, 47, 94, 188, 101, 202, 137, 15, 30, 60, 120, 240, 253, 231, 211, 187, 107, 214, 177, 127, 254, 225, 223, 163, 91, 182, 113, 226, 217, 175, 67, 134, 17, 34, 68, 136, 13, 26, 52, 104, 208, 189, 103, 206, 129, 31, 62, 124, 248, 237, 199, 147, 59, 118, 236, 197, 151, 51, 102, 204, 133, 23, 46, 92, 184, 109, 218, 169, 79, 158, 33, 66, 132, 21, 42, 84, 168, 77, 154, 41, 82, 164, 85, 170, 73, 146, 57, 114, 228, 213, 183, 115, 230, 209, 191, 99, 198, 145, 63, 126, 252, 229, 215, 179, 123, 246, 241, 255, 227, 219, 171, 75, 150, 49, 98, 196, 149, 55, 110, 220, 165, 87, 174, 65, 130, 25, 50, 100, 200, 141, 7, 14, 28, 56, 112, 224, 221, 167, 83, 166, 81, 162, 89, 178, 121, 242, 249, 239, 195, 155, 43, 86, 172, 69, 138, 9, 18, 36, 72, 144, 61, 122, 244, 245, 247, 243, 251, 235, 203, 139, 11, 22, 44, 88, 176, 125, 250, 233, 207, 131, 27, 54, 108, 216, 173, 71, 142]
theorem exps_next : (List.range 254).all (fun i => xt (UInt8.ofNat (exps.getD i 0)) == UInt8.ofNat (exps.getD (i + 1) 0)) = true := by decide +kernel
theorem gmul_two (a : UInt8) : gmul a 2 = xt a := by
  refine ext_lin (fun a => gmul a 2) xt (fun x y => gmul_addl x y 2) xt_add (fun i hi => ?_) a
  have h : ∀ i : Fin 8, gmul (fb i.val) 2 = xt (fb i.val) := by decide +kernel
  exact h ⟨i, hi⟩
theorem exps_get (n : Nat) (h : n < 255) : gpow 2 n = UInt8.ofNat (exps.getD n 0) := by
  induction n with
  | zero => rfl
  | succ n ih =>
    show gmul (gpow 2 n) 2 = _
    rw [ih (by omega), gmul_two]
    have := List.all_eq_true.1 exps_next n (by simp; omega)
    simpa using this
theorem exps_all (a : UInt8) (h : a ≠ 0) : ∃ n, n < 255 ∧ gpow 2 n = a := by
  have key : ∀ n : Fin 256, n.val ≠ 0 → (exps.contains n.val) = true := by decide +kernel
  have h2 := key ⟨a.toNat, a.toNat_lt⟩ (fun e => h (by apply UInt8.toNat_inj.1; simpa using e))
  rw [List.contains_iff_mem] at h2
  obtain ⟨n, hn, e⟩ := List.getElem_of_mem h2
  have hl : exps.length = 255 := by decide +kernel
  refine ⟨n, by omega, ?_⟩
  rw [exps_get n (by omega), List.getD, List.getElem?_eq_getElem hn, e]
  simp
theorem exps_one (n : Nat) (h : n < 255) (h1 : gpow 2 n = 1) : n = 0 := by
  rw [exps_get n h] at h1
  have key : ∀ n : Fin 255, UInt8.ofNat (exps.getD n.val 0) = 1 → n.val = 0 := by decide +kernel
  exact key ⟨n, h⟩ h1
theorem gpow2_one (n : Nat) : gpow 2 n = 1 ↔ n % 255 = 0 := by
  rw [← gpow_mod 2 (by decide)]
  constructor
  · exact fun h => exps_one _ (by omega) h
  · intro h; rw [h]; rfl
/-- How often an element must be taken to make one: the first of the divisors of 255. -/
def ordL : List Nat := [1, 3, 5, 15, 17, 51, 85, 255]
theorem ord_first (a : UInt8) (h : a ≠ 0) (d : Nat) (hd : d ∈ ordL) (h1 : gpow a d = 1) (hmin : ∀ e, e ∈ ordL → e < d → gpow a e ≠ 1) (m : Nat) (hm : 1 ≤ m) (hmd : m < d) : gpow a m ≠ 1 := by
  obtain ⟨l, hl, rfl⟩ := exps_all a h
  rw [← gpow_mul, gpow2_one] at h1
  simp only [← gpow_mul] at hmin ⊢
  simp only [ne_eq, gpow2_one] at hmin ⊢
  have key : ∀ l : Fin 255, ordL.all (fun d => !(l.val * d % 255 == 0) || ordL.any (fun e => decide (e < d) && l.val * e % 255 == 0) || (List.range d).all (fun m => m == 0 || !(l.val * m % 255 == 0))) = true := by decide +kernel
  have h2 := List.all_eq_true.1 (key ⟨l, hl⟩) d hd
  simp only [Bool.or_eq_true, Bool.not_eq_true', beq_eq_false_iff_ne, List.any_eq_true, Bool.and_eq_true, decide_eq_true_eq, beq_iff_eq, List.all_eq_true, List.mem_range] at h2
  rcases h2 with (h2 | ⟨e, he, hlt, h2⟩) | h2
  · exact absurd h1 h2
  · exact absurd h2 (hmin e he hlt)
  · rcases h2 m hmd with h3 | h3
    · omega
    · exact h3
end Go.Proofs.Ytmcgcfbdofpfdaa
