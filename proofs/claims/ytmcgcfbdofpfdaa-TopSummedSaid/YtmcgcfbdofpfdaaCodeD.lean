/- code.none, even, add (rows shorter than 256). -/
import Derived.Test.YtmcgcfbdofpfdaaCodeC
namespace Go.Proofs.Ytmcgcfbdofpfdaa
open Go.RowKit
attribute [local irreducible] gmul gpow ginv
set_option maxRecDepth 8000 in
theorem none_c (g k n : Nat) (mat : List (List UInt8)) (w : World) (h : CodeAt w g k n mat) (hk : 1 ≤ k) : Calls Try.prog 87 #[.pointer (some ⟨g, 0, none⟩)] w fun e w' => e = .returned (.bool false) ∧ Ext w w' := by
  obtain ⟨V, hb, _⟩ := h
  have hc := fun i => blk_cell hb i
  have hc0 := hc 0
  have e1 : ((k : Int) == 0) = false := by simp; omega
  go_enter Try.func87, Try.ntmps87
  go_wp2
  go_ret
  exact ⟨rfl, Ext.refl _⟩
set_option maxRecDepth 8000 in
theorem even_c (v : Value) (xss : List (List UInt8)) (n : Nat) (w : World) (hv : SlR (SlV vB) w v xss) (hn : ∀ x ∈ xss, x.length = n) : Calls Try.prog 88 #[v] w fun e w' => e = .returned (.bool true) ∧ Ext w w' := by
  obtain ⟨A, c, rfl, hlc, hcm, hr⟩ := hv
  unfold maxLen at hcm
  have HR := Lib.hid hr; clear hr
  have HN := Lib.hid hn; clear hn
  go_enter Try.func88, Try.ntmps88
  go_wp2_with fail
  go_loop [7] (fun i => ∃ j : Nat, j ≤ xss.length ∧ i = .int .i64 j) (fun i => xss.length - (intOf i).toNat)
  case atStart => exact ⟨0, by omega, rfl⟩
  case round =>
    obtain ⟨j, hj, rfl⟩ := hrel
    by_cases hlt : j < xss.length
    · obtain ⟨b, o, u, rfl, hbl, hc1, A1, c1, rfl, hl1, hm1, hr1⟩ := HR.out.at_ hlt
      obtain ⟨b', o', u', e, hbl', hc2, A2, c2, rfl, hl2, hm2, hr2⟩ := HR.out.at_ (k := 0) (by omega)
      injection e with e; injection e with e1 e2; subst e1 e2
      rw [HN.out _ (List.getElem_mem hlt)] at hc1
      rw [HN.out _ (List.getElem_mem _)] at hc2
      clear hr1 hr2 hl1 hl2 hm1 hm2
      rw [Nat.add_zero] at hc2
      have e3 : ((n : Int) != (n : Int)) = false := by simp
      have h0 : 0 < xss.length := by omega
      go_wp2
      exact ⟨⟨j + 1, by omega, by go_num⟩, by simp [intOf]; omega⟩
    · obtain rfl : j = xss.length := by omega
      go_wp2
      go_ret
      exact ⟨rfl, Ext.refl _⟩
/-- The first k places are done. -/
def mixTo {α : Type} (ys xs : List α) (k : Nat) : List α := ys.take k ++ xs.drop k
section
variable {α : Type} {ys xs : List α}
theorem mixTo_length (k : Nat) (h : ys.length = xs.length) : (mixTo ys xs k).length = xs.length := by simp [mixTo]; omega
theorem mixTo_zero : mixTo ys xs 0 = xs := by simp [mixTo]
theorem mixTo_all (h : ys.length = xs.length) : mixTo ys xs xs.length = ys := by simp [mixTo, ← h]
theorem mixTo_get (k : Nat) (h : ys.length = xs.length) (hk : k < xs.length) (h' : k < (mixTo ys xs k).length) : (mixTo ys xs k)[k]'h' = xs[k] := by
  simp only [mixTo]
  rw [List.getElem_append_right (by simp; omega)]
  simp [show min k ys.length = k from by omega]
theorem mixTo_set (k : Nat) (h : ys.length = xs.length) (hk : k < xs.length) : (mixTo ys xs k).set k (ys[k]'(by omega)) = mixTo ys xs (k + 1) := by
  apply List.ext_getElem
  · simp [mixTo]; omega
  · intro i h1 h2
    have hi : i < xs.length := by simp [mixTo] at h2; omega
    have hi' : i < ys.length := by omega
    rw [List.getElem_set]
    split
    · rename_i e; subst e
      simp only [mixTo]
      rw [List.getElem_append_left (by simp; omega)]
      simp
    · rename_i e
      simp only [mixTo]
      by_cases hik : i < k
      · rw [List.getElem_append_left (by simp; omega), List.getElem_append_left (by simp; omega)]
        simp
      · rw [List.getElem_append_right (by simp; omega), List.getElem_append_right (by simp; omega)]
        simp only [List.length_take, List.getElem_drop]
        congr 1
        omega
end
def addL (xs row : List UInt8) (c : UInt8) : List UInt8 := List.zipWith (fun a b => a ^^^ gmul c b) xs row
theorem addL_len (xs row : List UInt8) (c : UInt8) (h : xs.length = row.length) : (addL xs row c).length = xs.length := by simp [addL]; omega
theorem b_eq01 (a : UInt8) : (b8 a == 0) = decide (a = 0) ∧ (b8 a == 1) = decide (a = 1) := ⟨b_eq0 a, b_eq1 a⟩
set_option maxRecDepth 8000 in
set_option maxHeartbeats 1000000 in
theorem add_c (v rv : Value) (xs row : List UInt8) (c : UInt8) (W0 w : World) (hv : OwnS vB 5 w W0.heap.size v xs) (hr : SlV vB W0 rv row) (hE : Ext W0 w) (hl : xs.length = row.length) (hs : row.length < 256) :
    Calls Try.prog 96 #[v, rv, .int .u8 (b8 c)] w fun e w' => e = .returned (.tuple #[]) ∧ OwnS vB 5 w' W0.heap.size v (addL xs row c) ∧ w.grownBy w' v.ownBlock := by
  obtain ⟨A, cp, rfl, hlc, hcm, _⟩ := hv.form
  obtain ⟨A2, cp2, rfl, hlc2, hcm2, hrd⟩ := hr
  unfold maxLen at hcm hcm2
  have HV := Lib.hid hv; clear hv
  have HR := Lib.hid hrd; clear hrd
  have HE := Lib.hid hE; clear hE
  obtain ⟨ys, hys⟩ : ∃ ys, ys = addL xs row c := ⟨_, rfl⟩
  have hyl : ys.length = xs.length := by rw [hys, addL_len _ _ _ hl]
  have HYS := Lib.hid hys; clear hys
  have HYL := Lib.hid hyl; clear hyl
  have HL := Lib.hid hl
  by_cases h0 : c = 0
  · subst h0
    have e1 : (b8 0 == 0) = true := by decide
    go_enter Try.func96, Try.ntmps96
    go_wp2
    go_end0
    refine ⟨rfl, ?_, gb_ext (Ext.refl _) _⟩
    have : addL xs row 0 = xs := by
      unfold addL
      apply List.ext_getElem
      · simp; omega
      · intro i h1 h2; simp [zero_gmul]
    rw [this]; exact HV.out
  by_cases h1 : c = 1
  · subst h1
    have e1 : (b8 1 == 0) = false := by decide
    have e2 : (b8 1 == 1) = true := by decide
    go_enter Try.func96, Try.ntmps96
    go_wp2
    go_loopw [49] (fun i wr => ∃ k : Nat, k ≤ row.length ∧ i = .int .i64 k ∧ Hid (OwnS vB 5 wr W0.heap.size (.slice A xs.length cp) (mixTo ys xs k)) ∧ Hid (w.grownBy wr (Value.slice A xs.length cp).ownBlock)) (fun i _ => row.length - (intOf i).toNat)
    case atStart => exact ⟨0, by omega, rfl, by rw [mixTo_zero]; exact HV, Lib.hid (gb_ext (Ext.refl _) _)⟩
    case round =>
      obtain ⟨k, hk, rfl, HO, HG⟩ := hrel
      by_cases hlt : k < row.length
      · have hlx : k < xs.length := by omega
        obtain ⟨b2, o2, rfl, hbl2, hc2⟩ := HR.out.at_ hlt
        obtain ⟨g, rfl, hg1, hg2, hc3, hf3, hs3⟩ := HO.out.at_ (k := k) (by rw [mixTo_length _ HYL.out]; exact hlx)
        rw [mixTo_get k HYL.out hlx] at hc3
        have hX : Ext W0 wr := HE.out.gr HG.out (fun q hq => by injection hq with hq; exact hq ▸ hg1)
        have hc2' := hX.cl hc2
        clear hc2 hX
        unfold vB at hc2' hc3
        have HS := Lib.hid hs3; clear hs3
        go_wp2
        refine ⟨⟨k + 1, by omega, by go_num, ?_, Lib.hid (gb_set HG.out _ _)⟩, by simp [intOf]; omega⟩
        have h := HS.out (ys[k]'(by rw [HYL.out]; exact hlx))
        rw [mixTo_set k HYL.out hlx] at h
        have e : ys[k]'(by rw [HYL.out]; exact hlx) = xs[k] ^^^ row[k] := by simp [HYS.out, addL, one_gmul]
        rw [e, vB, ← b_xor] at h
        exact Lib.hid h
      · obtain rfl : k = row.length := by omega
        go_wp2
        go_end0
        have h := HO.out
        rw [← HL.out, mixTo_all HYL.out, HYS.out] at h
        exact ⟨rfl, h, HG.out⟩
  · have e1 : (b8 c == 0) = false := by rw [b_eq0]; simpa using h0
    have e2 : (b8 c == 1) = false := by rw [b_eq1]; simpa using h1
    have hr256 : (row.length : Int) < 256 := by omega
    clear hl
    go_enter Try.func96, Try.ntmps96
    go_wp2
    go_loopw [68] (fun i wr => ∃ k : Nat, k ≤ row.length ∧ i = .int .i64 k ∧ Hid (OwnS vB 5 wr W0.heap.size (.slice A xs.length cp) (mixTo ys xs k)) ∧ Hid (w.grownBy wr (Value.slice A xs.length cp).ownBlock)) (fun i _ => row.length - (intOf i).toNat)
    case atStart => exact ⟨0, by omega, rfl, by rw [mixTo_zero]; exact HV, Lib.hid (gb_ext (Ext.refl _) _)⟩
    case round =>
      obtain ⟨k, hk, rfl, HO, HG⟩ := hrel
      by_cases hlt : k < row.length
      · have hlx : k < xs.length := by have := HL.out; omega
        obtain ⟨b2, o2, rfl, hbl2, hc2⟩ := HR.out.at_ hlt
        obtain ⟨g, rfl, hg1, hg2, hc3, hf3, hs3⟩ := HO.out.at_ (k := k) (by rw [mixTo_length _ HYL.out]; exact hlx)
        rw [mixTo_get k HYL.out hlx] at hc3
        have hX : Ext W0 wr := HE.out.gr HG.out (fun q hq => by injection hq with hq; exact hq ▸ hg1)
        have hc2' := hX.cl hc2
        clear hc2 hX
        unfold vB at hc2' hc3
        have HS := Lib.hid hs3; clear hs3
        go_upto_region 22 with fail
        go_region_law (first | (go_simp; go_at_call 21; (refine (times_c _ _ _).mono ?_); rintro e w' ⟨rfl, rfl⟩))
        all_goals
          go_wp2_with fail
          refine ⟨⟨k + 1, by omega, by go_num, ?_, Lib.hid (gb_dr (gb_set HG.out _ _))⟩, by simp [intOf]; omega⟩
          have h := HS.out (ys[k]'(by rw [HYL.out]; exact hlx))
          rw [mixTo_set k HYL.out hlx] at h
          have e : ys[k]'(by rw [HYL.out]; exact hlx) = xs[k] ^^^ gmul c row[k] := by simp [HYS.out, addL]
          rw [e, vB, ← b_xor] at h
          exact Lib.hid (h.ext (Ext.refl _).dr)
      · obtain rfl : k = row.length := by omega
        go_wp2
        go_end0
        have h := HO.out
        rw [← HL.out, mixTo_all HYL.out, HYS.out] at h
        exact ⟨rfl, h, HG.out⟩
end Go.Proofs.Ytmcgcfbdofpfdaa
