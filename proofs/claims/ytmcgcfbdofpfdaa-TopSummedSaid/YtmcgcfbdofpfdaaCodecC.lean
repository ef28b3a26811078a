/- The walks of the codec's reading of numbers and bytes. -/
import Derived.Test.YtmcgcfbdofpfdaaCodecB
namespace Go.Proofs.Ytmcgcfbdofpfdaa
open Go.RowKit
/-- The number that some bytes are, the lowest first. -/
def accN (l : List UInt8) : Nat → Nat
  | 0 => 0
  | k + 1 => accN l k + (l.getD k 0).toNat * 256 ^ k
theorem accN_lt (l : List UInt8) (k : Nat) : accN l k < 256 ^ k := by
  induction k with
  | zero => simp [accN]
  | succ k ih =>
    have h := (l.getD k 0).toNat_lt
    simp only [accN, Nat.pow_succ]
    have : (l.getD k 0).toNat * 256 ^ k ≤ 255 * 256 ^ k := Nat.mul_le_mul_right _ (by omega)
    omega
def accI (l : List UInt8) (k : Nat) : Int := accN l k
def shl8 (c : UInt8) (k : Nat) : Int := ((c.toNat * 256 ^ k : Nat) : Int)
theorem p256 (k : Nat) : 2 ^ (8 * k) = 256 ^ k := by rw [Nat.pow_mul]
theorem s_shl64 (c : UInt8) (k : Nat) (yk : IntKind) (hk : k < 8) : Op.shift .shl .u64 (b8 c) yk (8 * (k : Int)) = pure (.int .u64 (shl8 c k)) := by
  rw [shift_shl_any _ _ _ _ (by omega)]
  congr 2
  unfold b8 shl8
  rw [show (8 * (k : Int)).toNat = 8 * k by omega, show min (8 * k) IntKind.u64.bits = 8 * k from Nat.min_eq_left (by show 8 * k ≤ 64; omega)]
  rw [show (2 : Int) ^ (8 * k) = ((256 ^ k : Nat) : Int) from by rw [← p256]; simp]
  rw [show (c.toNat : Int) * ((256 ^ k : Nat) : Int) = ((c.toNat * 256 ^ k : Nat) : Int) from by simp]
  refine IntWalk.u64_in _ ⟨by omega, ?_⟩
  have h1 := c.toNat_lt
  have h2 : c.toNat * 256 ^ k ≤ 255 * 256 ^ k := Nat.mul_le_mul_right _ (by omega)
  have h3 : 256 ^ k ≤ 256 ^ 7 := Nat.pow_le_pow_right (by omega) (by omega)
  omega
theorem acc_or (l : List UInt8) (k : Nat) (hk : k < 8) : bits .or .u64 (accI l k) (shl8 (l.getD k 0) k) = accI l (k + 1) := by
  have h1 := accN_lt l k
  have hc := (l.getD k 0).toNat_lt
  have h2 : (l.getD k 0).toNat * 256 ^ k ≤ 255 * 256 ^ k := Nat.mul_le_mul_right _ (by omega)
  have h3 : 256 ^ k ≤ 256 ^ 7 := Nat.pow_le_pow_right (by omega) (by omega)
  unfold accI shl8
  have e : ∀ c : Nat, c < 18446744073709551616 → (BitVec.ofInt 64 (c : Int)).toNat = c := fun c hc => by
    rw [BitVec.ofInt_natCast, BitVec.toNat_ofNat]; exact Nat.mod_eq_of_lt hc
  show IntKind.u64.wrap ((BitVec.ofInt 64 (accN l k : Int) ||| BitVec.ofInt 64 (((l.getD k 0).toNat * 256 ^ k : Nat) : Int)).toNat : Int) = _
  rw [BitVec.toNat_or, e _ (by omega), e _ (by omega), Nat.or_comm, Nat.mul_comm, ← p256 k, ← Nat.two_pow_add_eq_or_of_lt (by rw [p256]; exact h1)]
  rw [p256]
  have e2 : accN l (k + 1) = 256 ^ k * (l.getD k 0).toNat + accN l k := by simp only [accN]; rw [Nat.mul_comm, Nat.add_comm]
  rw [e2]
  refine IntWalk.u64_in _ ⟨by omega, ?_⟩
  have h4 : 256 ^ k * (l.getD k 0).toNat ≤ 255 * 256 ^ k := by rw [Nat.mul_comm]; exact h2
  omega
/-- The number that four bytes are. -/
def num4 (l : List UInt8) : UInt32 := UInt32.ofNat (accN l 4)
theorem acc_u32 (l : List UInt8) : IntKind.u32.wrap (accI l 4) = w32 (num4 l) := by
  have h := accN_lt l 4
  rw [IntKind.wrap_u32]
  unfold accI num4 w32
  rw [UInt32.toNat_ofNat']
  omega
theorem b8_u64 (x : UInt8) : IntKind.u64.wrap (b8 x) = b8 x := IntWalk.u64_in _ (by have := u8_r x; omega)
attribute [local go_sem ↓] s_shl64
attribute [local go_sem] b8_u64
set_option maxRecDepth 8000 in
theorem take32in_c (g1 g3 g : Nat) (v : Value) (bs : List UInt8) (k : Nat) (z : Value) (w : World) (h : ReaderAt w g v bs k) (hk : k + 4 ≤ bs.length)
    (h1 : w.heap[g1]? = some (.cells #[.pointer (some ⟨g, 0, none⟩)] 149 (0, 0))) (h3 : w.heap[g3]? = some (.cells #[z] 23 (0, 0))) :
    Calls Try.prog 104 #[.pointer (some ⟨g1, 0, none⟩), .pointer (some ⟨g3, 0, none⟩)] w fun e w' => e = .returned (.tuple #[]) ∧ ReaderAt w' g v bs (k + 4) ∧
      w'.heap[g3]? = some (.cells #[.int .u32 (w32 (num4 ((bs.drop k).take 4)))] 23 (0, 0)) ∧ Chg [g, g3] w w' := by
  have c1 : w.cell? ⟨g1, 0, none⟩ = some (.pointer (some ⟨g, 0, none⟩)) := blk_cell h1 0
  have hne : some g1 ≠ some g := by
    rintro e
    injection e with e
    subst e
    obtain ⟨hb, _⟩ := h
    rw [h1] at hb
    injection hb with hb
    injection hb with _ ht
    exact absurd ht (by decide)
  have hw := fun W => width32_c W
  have HW := Lib.hid hw; clear hw
  have hne3 : some g3 ≠ some g := by
    rintro e
    injection e with e
    subst e
    obtain ⟨hb, _⟩ := h
    rw [h3] at hb
    injection hb with hb
    injection hb with _ ht
    exact absurd ht (by decide)
  have HN := Lib.hid hne; clear hne
  have HN3 := Lib.hid hne3; clear hne3
  have H := Lib.hid h; clear h
  have H1 := Lib.hid h1; clear h1
  have H3 := Lib.hid h3; clear h3
  obtain ⟨l, hl'⟩ : ∃ l, l = (bs.drop k).take 4 := ⟨_, rfl⟩
  have hll : l.length = 4 := by rw [hl']; simp; omega
  have ht : ∀ W, ReaderAt W g v bs k → Calls Try.prog 101 #[.pointer (some ⟨g, 0, none⟩), .int .u64 4] W fun e w' => ∃ A' c', e = .returned (.slice A' 4 c') ∧ RdS vB w' A' l ∧ ReaderAt w' g v bs (k + 4) ∧ W.grownBy w' (some g) := fun W h => (take_c g v bs k 4 W h hk).mono fun e w' ⟨v', he, ⟨A', c', hv, _, _, hr⟩, h2, h3⟩ => ⟨A', c', by rw [he, hv, ← hl', hll], by rw [hl']; exact hr, h2, h3⟩
  have HT := Lib.hid ht; clear ht
  have HL := Lib.hid hl'; clear hl'
  have HLL := Lib.hid hll; clear hll
  have q1 : IntKind.u64.wrap 4 = 4 := by decide
  go_enter Try.func104, Try.ntmps104
  go_wp2_with fail
  go_region_held3 (fun w' => w'.cell? ⟨g1, 0, none⟩ = some (.pointer (some ⟨g, 0, none⟩))) (first | exact c1 | assumption) (first | (go_at_call 91; refine (HW.out _).mono ?_; rintro e w' ⟨rfl, rfl⟩) | (go_at_call 101; refine (HT.out _ (by exact H.out)).mono ?_; rintro e w1 ⟨A', c', rfl, hl3, hR, hg⟩; have hk1 : w1.cell? ⟨g1, 0, none⟩ = some (.pointer (some ⟨g, 0, none⟩)) := (World.cell?_of_block (a := ⟨g1, 0, none⟩) (hg.block g1 (blk_lt H1.out) HN.out)).trans c1))
  rename_i hH
  clear hH hk1 c1 q1
  have H3' := Lib.hid ((hg.block g3 (blk_lt H3.out) HN3.out).trans H3.out)
  have HR := Lib.hid hl3; clear hl3
  have HG := Lib.hid hg; clear hg
  go_wp2
  go_loop [2, 10] (fun u i => ∃ j : Nat, j ≤ 4 ∧ i = .int .i64 j ∧ u = .int .u64 (accI l j)) (fun _ i => 4 - (intOf i).toNat)
  case atStart => exact ⟨0, by omega, rfl, rfl⟩
  case round =>
    obtain ⟨j, hj, rfl, rfl⟩ := hrel
    by_cases hlt : j < 4
    · obtain ⟨b, o, rfl, hbl, hcell⟩ := HR.out.at_ (k := j) (by rw [HLL.out]; exact hlt)
      unfold vB at hcell
      have hor := acc_or l j (by omega)
      rw [List.getD, List.getElem?_eq_getElem (by rw [HLL.out]; exact hlt), Option.getD_some] at hor
      have h8 : j < 8 := by omega
      go_wp2
      exact ⟨⟨j + 1, by omega, by go_num, rfl⟩, by simp [intOf]; omega⟩
    · obtain rfl : j = 4 := by omega
      have hc3 := blk_cell H3'.out 0
      have hf3 := blk_fr H3'.out 0
      have hu := acc_u32 l
      go_wp2
      go_end0
      have hg4 : w1.grownBy (w1.setCell ⟨g3, 0, none⟩ (.int .u32 (w32 (num4 l)))) (some g3) := gb_set (gb_ext (Ext.refl _) _) _ _
      refine ⟨rfl, ?_, ?_, ?_⟩
      · obtain ⟨hb, ho⟩ := hR
        exact ⟨(hg4.block g (blk_lt hb) (Ne.symm HN3.out)).trans hb, ho.other hg4 (.inr (own_ne ho H3'.out (by decide)))⟩
      · rw [← HL.out]; exact blk_set H3'.out 0 _
      · exact ((Chg.of_gb (gb_tr (gb_dr (gb_ext (Ext.refl w) (some g))) HG.out)).mono (by simp)).set (.inl (by simp)) _ _

theorem assert_nil (w : World) : (Instr.typeAssert .nilIface 20 40 true).run Try.prog w = .ok (.tuple #[.int .i64 0, .bool false]) w := by kernel_rfl
set_option maxRecDepth 20000 in
theorem idle_c (p q : Value) (w : World) : CallsD Try.prog 105 #[p, q] .returning w fun e u' w' => e = .returned (.tuple #[]) ∧ u' = .returning ∧ w' = w := by
  refine callsD_of_wpS Try.func105 rfl fun c₀ cs hu => ?_
  apply wpS_seq
  apply wpS_region
  simp [wpOpsS, go_sem, recoverD, hu, Try.ntmps105, Exit.thenS, assert_nil]
  apply wpS_seq
  apply wpS_region
  simp [wpOpsS, go_sem, hu, Exit.thenS]
  refine wpS_cond (t := false) (by simp [Act.eval, Array.replicate]) ?_
  simp only [Bool.false_eq_true, if_false]
  refine wpS_of_wp (wp_skip ?_)
  cases c₀
  simp_all [bodyPostS, results, Try.results105]
set_option maxRecDepth 8000 in
/-- A reading whose doing does not panic. -/
theorem reading_c (g : Nat) (v : Value) (bs : List UInt8) (k : Nat) (F : Nat) (caps : Array Value) (w : World) (R : World → World → Prop) (h : ReaderAt w g v bs k) (hF : ∀ w, (callFunc F caps).run Try.prog w = .ok (.enter F caps) w)
    (hdo : ∀ W, Ext w W → Calls Try.prog F caps W fun e w' => e = .returned (.tuple #[]) ∧ R W w') :
    Calls Try.prog 98 #[.pointer (some ⟨g, 0, none⟩), .func (.func F) #[] caps] w fun e w' => e = .returned (.tuple #[]) ∧ ∃ W, Ext w W ∧ R W w' := by
  have hmf : ∀ (fn : Fn) (first cap : Array Value) (w : World), (Instr.makeFunc fn first cap).run Try.prog w = .ok (.func fn first cap) w := fun _ _ _ _ => rfl
  have c1 : w.cell? ⟨g, 1, none⟩ = some (.int .i64 k) := by obtain ⟨hb, _⟩ := h; exact blk_cell hb 1
  have c2 : w.cell? ⟨g, 2, none⟩ = some (.int .i64 0) := by obtain ⟨hb, _⟩ := h; exact blk_cell hb 2
  have hlt : g < w.heap.size := by obtain ⟨hb, _⟩ := h; exact blk_lt hb
  have HD := Lib.hid hdo; clear hdo
  clear h
  go_enter_defers Try.func98, Try.ntmps98
  go_wp2_with (refine (HD.out _ (((Ext.refl w).al _).al _)).mono ?_; rintro e w1 ⟨rfl, hR⟩)
  refine leaves_cons (f := 105) (args := #[.pointer (some ⟨w.heap.size + 1, 0, none⟩), .pointer (some ⟨w.heap.size, 0, none⟩)]) (by simp) (by simp [go_sem]) ?_
  refine (idle_c _ _ _).mono ?_
  rintro e u' w'' ⟨rfl, rfl, rfl⟩
  simp [Leaves, settle, results, Try.results98, go_sem]
  exact ⟨_, ((Ext.refl w).al _).al _, hR⟩
theorem enters (F : Nat) {fn : Func} (hf : Try.prog.funcs[F]? = some fn) (hname : (fn.name == "runtime.NumGoroutine") = false) (hb : fn.body.isSome = true) (args : Array Value) (w : World) :
    (callFunc F args).run Try.prog w = .ok (.enter F args) w := by
  obtain ⟨c, hb⟩ := Option.isSome_iff_exists.1 hb
  have h1 : fn.name ≠ "runtime.NumGoroutine" := by simpa using hname
  simp [callFunc, hf, h1, hb]
set_option maxRecDepth 8000 in
theorem take32_c (g : Nat) (v : Value) (bs : List UInt8) (k : Nat) (w : World) (h : ReaderAt w g v bs k) (hk : k + 4 ≤ bs.length) :
    Calls Try.prog 95 #[.pointer (some ⟨g, 0, none⟩)] w fun e w' => e = .returned (.int .u32 (w32 (num4 ((bs.drop k).take 4)))) ∧ ReaderAt w' g v bs (k + 4) ∧ w.grownBy w' (some g) := by
  have hmf : ∀ (fn : Fn) (first cap : Array Value) (w : World), (Instr.makeFunc fn first cap).run Try.prog w = .ok (.func fn first cap) w := fun _ _ _ _ => rfl
  have H := Lib.hid h; clear h
  obtain ⟨w2, hw2⟩ : ∃ w2, w2 = (w.alloc (.cells #[.pointer (some ⟨g, 0, none⟩)] 149)).alloc (.cells #[.int .u32 0] 23) := ⟨_, rfl⟩
  have h1 : w2.heap[w.heap.size]? = some (.cells #[.pointer (some ⟨g, 0, none⟩)] 149 (0, 0)) := by rw [hw2]; exact heap_alloc2_old _ _ _
  have h3 : w2.heap[w.heap.size + 1]? = some (.cells #[.int .u32 0] 23 (0, 0)) := by rw [hw2]; exact heap_alloc2_new _ _ _
  have hE2 : Ext w w2 := by rw [hw2]; exact ((Ext.refl w).al _).al _
  have hrd := reading_c g v bs k 104 #[.pointer (some ⟨w.heap.size, 0, none⟩), .pointer (some ⟨w.heap.size + 1, 0, none⟩)] w2
    (fun W w' => ReaderAt w' g v bs (k + 4) ∧ w'.heap[w.heap.size + 1]? = some (.cells #[.int .u32 (w32 (num4 ((bs.drop k).take 4)))] 23 (0, 0)) ∧ Chg [g, w.heap.size + 1] W w')
    (H.out.ext hE2) (enters _ Try.func104 (by kernel_rfl) (by kernel_rfl) _)
    (fun W hW => take32in_c _ _ g v bs k (.int .u32 0) W ((H.out.ext hE2).ext hW) hk (hW.heap h1) (hW.heap h3))
  rw [hw2] at hrd
  have HRD := Lib.hid hrd; clear hrd
  have HW := Lib.hid hw2; clear hw2 h1 h3
  have HE := Lib.hid hE2; clear hE2
  go_enter Try.func95, Try.ntmps95
  go_wp2_with (go_at_call 98; with_reducible refine HRD.out.mono ?_; rintro e w3 ⟨rfl, W, hW, hR, hv, hC⟩; have hc3 := blk_cell hv 0)
  go_ret
  exact ⟨rfl, hR, ((Chg.of_ext ((((Ext.refl w).al _).al _).tr hW) [g]).tr' hC (by simp)).gb (by simp)⟩
end Go.Proofs.Ytmcgcfbdofpfdaa
