/- The walks of the field's orders and rows; the field of two. -/
import Derived.Test.YtmcgcfbdofpfdaaFieldB
namespace Go.Proofs.Ytmcgcfbdofpfdaa
open Go.RowKit
def ordAt (k : Nat) : Nat := ordL.getD k 0
theorem ordAt_mem (k : Nat) (h : k < 8) : ordAt k ∈ ordL := by
  have : ∀ k : Fin 8, ordAt k.val ∈ ordL := by decide
  exact this ⟨k, h⟩
theorem ordAt_lt (k : Nat) (h : k < 8) (e : Nat) (he : e ∈ ordL) (hlt : e < ordAt k) : ∃ j, j < k ∧ e = ordAt j := by
  have : ∀ k : Fin 8, ∀ e ∈ ordL, e < ordAt k.val → ∃ j : Fin 8, j.val < k.val ∧ e = ordAt j.val := by decide
  obtain ⟨j, h1, h2⟩ := this ⟨k, h⟩ e he hlt
  exact ⟨j, h1, h2⟩
theorem ordAt_r (k : Nat) (h : k < 8) : 1 ≤ ordAt k ∧ ordAt k ≤ 255 := by
  have : ∀ k : Fin 8, 1 ≤ ordAt k.val ∧ ordAt k.val ≤ 255 := by decide
  exact this ⟨k, h⟩
theorem ord_cells (k : Nat) (h : k < 8) : (#[Value.int .i64 1, .int .i64 3, .int .i64 5, .int .i64 15, .int .i64 17, .int .i64 51, .int .i64 85, .int .i64 255] : Array Value)[k]? = some (.int .i64 (ordAt k : Int)) := by
  match k, h with
  | 0, _ => rfl
  | 1, _ => rfl
  | 2, _ => rfl
  | 3, _ => rfl
  | 4, _ => rfl
  | 5, _ => rfl
  | 6, _ => rfl
  | 7, _ => rfl
attribute [local irreducible] gmul gpow ginv gpowz ordAt
attribute [local go_sem] b_xor b_eq0 b_eq1 u8_u8
theorem b_ne0 (a : UInt8) : (b8 a != 0) = !decide (a = 0) := by rw [bne, b_eq0]
attribute [local go_sem] b_ne0
def OrdTold (a : UInt8) (e : Ending) : Prop := (a = 0 ∧ e = .returned (.tuple #[.int .i64 0, .int .i64 10])) ∨ (∃ d : Nat, a ≠ 0 ∧ e = .returned (.tuple #[.int .i64 d, .int .i64 0]) ∧ 1 ≤ d ∧ d ≤ 255 ∧ gpow a d = 1 ∧ ∀ m, 1 ≤ m → m < d → gpow a m ≠ 1)
set_option maxRecDepth 8000 in
theorem order_c (a : UInt8) (w : World) : Calls Try.prog 29 #[.int .u8 (b8 a)] w fun e w' => OrdTold a e ∧ Ext w w' := by
  go_enter Try.func29, Try.ntmps29
  go_wp2
  generalize hw : w.alloc _ = w1
  have HW := Lib.hid hw; clear hw
  go_loopw [8] (fun i wr => ∃ k : Nat, k ≤ 8 ∧ i = .int .i64 k ∧ Hid (a ≠ 0 → ∀ j, j < k → gpow a (ordAt j) ≠ 1) ∧ w1 = wr) (fun i _ => 8 - (intOf i).toNat)
  case atStart => exact ⟨0, by omega, rfl, Lib.hid (fun _ j h => by omega), rfl⟩
  case round =>
    obtain ⟨k, hk, rfl, HN, rfl⟩ := hrel
    by_cases hlt : k < 8
    · have hc : w1.cell? ⟨w.heap.size, k, none⟩ = some (.int .i64 (ordAt k : Int)) := by rw [← HW.out, World.cell?_alloc_new]; exact ord_cells k hlt
      have hr := ordAt_r k hlt
      by_cases ha : a = 0
      · have e1 : (!decide (a = 0)) = false := by simpa using ha
        have HA := Lib.hid ha; clear ha
        go_wp2
        exact ⟨⟨k + 1, by omega, by go_num, Lib.hid fun h => absurd HA.out h, trivial⟩, by simp [intOf]; omega⟩
      · have e1 : (!decide (a = 0)) = true := by simpa using ha
        have HA := Lib.hid ha; clear ha
        have hp := pow_c a (ordAt k) w1 (by omega) (by omega)
        rw [gpowz_nn a _ HA.out] at hp
        generalize hx : gpow a (ordAt k) = x at hp
        have HP := Lib.hid hp; clear hp
        have HX := Lib.hid hx; clear hx
        by_cases h1 : x = 1
        · have e2 : decide (x = 1) = true := by simpa using h1
          have H1 := Lib.hid h1; clear h1
          go_wp2_with (go_at_call 27; with_reducible refine HP.out.mono ?_; rintro e w' ⟨rfl, rfl⟩)
          go_ret2
          refine ⟨.inr ⟨ordAt k, HA.out, rfl, hr.1, hr.2, HX.out.trans H1.out, fun m h1 h2 => ?_⟩, ?_⟩
          · exact ord_first a HA.out (ordAt k) (ordAt_mem k hlt) (HX.out.trans H1.out) (fun e he h => by obtain ⟨j, hj, rfl⟩ := ordAt_lt k hlt e he h; exact HN.out HA.out j hj) m h1 h2
          · rw [← HW.out]; exact (Ext.refl w).al _
        · have e2 : decide (x = 1) = false := by simpa using h1
          have H1 := Lib.hid h1; clear h1
          go_wp2_with (go_at_call 27; with_reducible refine HP.out.mono ?_; rintro e w' ⟨rfl, rfl⟩)
          exact ⟨⟨k + 1, by omega, by go_num, Lib.hid (fun h j hj => by
            by_cases e : j = k
            · subst e; rw [HX.out]; exact H1.out
            · exact HN.out h j (by omega)), trivial⟩, by simp [intOf]; omega⟩
    · obtain rfl : k = 8 := by omega
      go_wp2
      go_ret2
      refine ⟨.inl ⟨Classical.byContradiction fun h => ?_, rfl⟩, by rw [← HW.out]; exact (Ext.refl w).al _⟩
      refine HN.out h 7 (by omega) ?_
      have : ordAt 7 = 255 := by unfold ordAt; rfl
      rw [this]; exact pow255 a h

/-! ### rows -/
attribute [local go_sem] b8_beq
theorem info8' : (Try.prog.info? 5).map (fun i => (i.zero, i.size, i.bytes)) = some (some (vB 0), 1, 1) := by kernel_rfl
theorem scale_c (c : UInt8) (v : Value) (bs : List UInt8) (w : World) (hv : SlV vB w v bs) (hn : bs.length ≤ 281474976710656) :
    Calls Try.prog 30 #[v, .int .u8 (b8 c)] w fun e w' => ∃ v', e = .returned v' ∧ OwnS vB 5 w' w.heap.size v' (bs.map (gmul · c)) ∧ Ext w w' := by
  obtain ⟨A, cp, rfl, hlc, hcm, hr⟩ := hv
  unfold maxLen at hcm
  have HR := Lib.hid hr; clear hr
  obtain ⟨ys, hys⟩ : ∃ ys, ys = bs.map (gmul · c) := ⟨_, rfl⟩
  have hyl : ys.length = bs.length := by rw [hys]; simp
  have HL := Lib.hid hyl; clear hyl
  go_enter Try.func30, Try.ntmps30
  go_wp2_with (refine wpList_make_S (enc := vB) 0 rfl rfl (.tmp 8) (.tmp 8) 22 5 1 w.heap.size rfl Try.underlying22 info8' bs.length rfl rfl rfl rfl (by omega) (by unfold maxLen; omega) (Nat.le_refl _) ?_; intro w1 ho hE)
  go_loopw [12] (fun i wr => ∃ k : Nat, k ≤ bs.length ∧ i = .int .i64 k ∧ Hid (OwnS vB 5 wr w.heap.size (.slice (some ⟨w.heap.size, 0, none⟩) bs.length bs.length) (fillTo ys 0 k)) ∧ Hid (Ext w wr)) (fun i _ => bs.length - (intOf i).toNat)
  case atStart => exact ⟨0, by omega, rfl, by rw [fillTo_zero, HL.out]; exact Lib.hid ho, Lib.hid hE⟩
  case round =>
    clear ho hE
    obtain ⟨k, hk, rfl, HO, HE⟩ := hrel
    by_cases hlt : k < bs.length
    · obtain ⟨b, o, rfl, hbl, hcell⟩ := HR.out.at_ hlt
      have hc2 := HE.out.cl hcell
      clear hcell
      obtain ⟨g, hg, hg1, hg2, hc3, hf3, hs3⟩ := HO.out.at_ (k := k) (by rw [fillTo_length, HL.out]; exact hlt)
      injection hg with hg
      injection hg with hg
      subst hg
      unfold vB at hc2 hc3
      have HS := Lib.hid hs3; clear hs3
      go_wp2_with (go_at_call 21; with_reducible refine (times_c _ _ _).mono ?_; rintro e w' ⟨rfl, rfl⟩)
      refine ⟨⟨k + 1, by omega, by go_num, ?_, Lib.hid (HE.out.set (Nat.le_refl _) _)⟩, by simp [intOf]; omega⟩
      have h := HS.out (ys[k]'(by rw [HL.out]; exact hlt))
      rw [fillTo_set _ _ _ (by rw [HL.out]; exact hlt)] at h
      simp only [hys, List.getElem_map] at h ⊢
      exact Lib.hid h
    · obtain rfl : k = bs.length := by omega
      go_wp2
      go_ret
      refine ⟨_, rfl, ?_, HE.out⟩
      have h := HO.out
      rw [← HL.out, fillTo_all, hys] at h
      simpa using h
end Go.Proofs.Ytmcgcfbdofpfdaa
