/- code.product, Encode. -/
import Derived.Test.YtmcgcfbdofpfdaaCodeD
namespace Go.Proofs.Ytmcgcfbdofpfdaa
open Go.RowKit
attribute [local irreducible] gmul gpow ginv
theorem infoRB : (Try.prog.info? 22).map (fun i => (i.zero, i.size, i.bytes)) = some (some (idV (.slice none 0 0)), 1, 24) := by kernel_rfl
theorem info8v : (Try.prog.info? 5).map (fun i => (i.zero, i.size, i.bytes)) = some (some (vB 0), 1, 1) := by kernel_rfl
/-- A row of the product, of the first j summands. -/
def prodTo (r : List UInt8) (data : List (List UInt8)) (n : Nat) : Nat → List UInt8
  | 0 => List.replicate n 0
  | j + 1 => addL (prodTo r data n j) (data.getD j []) (r.getD j 0)
theorem prodTo_len (r : List UInt8) (data : List (List UInt8)) (n : Nat) (hd : ∀ x ∈ data, x.length = n) : ∀ j, j ≤ data.length → (prodTo r data n j).length = n
  | 0, _ => by simp [prodTo]
  | j + 1, h => by
    have hj : j < data.length := by omega
    have ih := prodTo_len r data n hd j (by omega)
    have e : (data.getD j []).length = n := by
      rw [List.getD_eq_getElem?_getD, List.getElem?_eq_getElem hj, Option.getD_some]; exact hd _ (List.getElem_mem hj)
    rw [prodTo, addL_len _ _ _ (by rw [ih, e]), ih]
def prodL (mat data : List (List UInt8)) (n : Nat) : List (List UInt8) := mat.map fun r => prodTo r data n data.length
theorem prodL_len (mat data : List (List UInt8)) (n : Nat) : (prodL mat data n).length = mat.length := by simp [prodL]
set_option maxRecDepth 8000 in
set_option maxHeartbeats 1000000 in
theorem product_c (mv rv : Value) (mat data : List (List UInt8)) (n : Nat) (w : World) (hm : SlR (SlV vB) w mv mat) (hr : SlR (SlV vB) w rv data) (hmd : ∀ r ∈ mat, r.length = data.length) (hd : ∀ x ∈ data, x.length = n)
    (hn1 : 1 ≤ n) (hn : n < 256) (hml : mat.length ≤ 255) (hml1 : 1 ≤ mat.length) (hd1 : 1 ≤ data.length) (hd2 : data.length ≤ 255) :
    Calls Try.prog 89 #[mv, rv] w fun e w' => ∃ V vs, e = .returned V ∧ RowsW 22 5 w' w.heap.size V vs (prodL mat data n) ∧ Ext w w' := by
  obtain ⟨MA, mc, rfl, hmc, hmc2, hM⟩ := hm
  obtain ⟨DA, dc, rfl, hdc, hdc2, hD⟩ := hr
  unfold maxLen at hmc2 hdc2
  have HM := Lib.hid hM; clear hM
  have HD := Lib.hid hD; clear hD
  have HMD := Lib.hid hmd; clear hmd
  have HDN := Lib.hid hd; clear hd
  obtain ⟨W, hW⟩ : ∃ W, W = prodL mat data n := ⟨_, rfl⟩
  have HWL := Lib.hid (show W.length = mat.length by rw [hW, prodL_len])
  have HW := Lib.hid hW; clear hW
  obtain ⟨DN, hDN⟩ : ∃ DN, DN = data.length := ⟨_, rfl⟩
  have HDNL := Lib.hid hDN
  go_enter Try.func89, Try.ntmps89
  go_wp2_with (refine wpList_make_S (enc := idV) (.slice none 0 0) rfl rfl (.tmp 11) (.tmp 11) 63 22 24 w.heap.size rfl Try.underlying63 infoRB mat.length rfl rfl rfl rfl (by omega) (by unfold maxLen; omega) (Nat.le_refl _) ?_; intro w1 ho hE)
  clear hDN
  go_loopw [15] (fun i wr => ∃ (k : Nat) (vs : List Value), k ≤ mat.length ∧ i = .int .i64 k ∧ Hid (RowsW 22 5 wr w.heap.size (.slice (some ⟨w.heap.size, 0, none⟩) mat.length mat.length) vs (fillTo W [] k)) ∧ Hid (Ext w wr)) (fun i _ => mat.length - (intOf i).toNat)
  case atStart => exact ⟨0, _, by omega, rfl, by rw [fillTo_zero, HWL.out]; exact Lib.hid (RowsW.new _ _ ho), Lib.hid hE⟩
  case round =>
    clear ho hE
    obtain ⟨k, vs, hk, rfl, HO, HE⟩ := hrel
    by_cases hlt : k < mat.length
    · have hlv : vs.length = mat.length := by rw [HO.out.len, fillTo_length, HWL.out]
      have HLV := Lib.hid hlv; clear hlv
      obtain ⟨bm, om, um, rfl, hbm, hcm, Am, cm, rfl, hlm, hmm, hrm⟩ := HM.out.at_ hlt
      obtain ⟨b0, o0, u0, rfl, hb0, hc0, A0, c0, rfl, hl0, hm0, hr0⟩ := HD.out.at_ (k := 0) (by omega)
      unfold maxLen at hmm
      rw [Nat.add_zero, HDN.out _ (List.getElem_mem _)] at hc0
      have hlr := HMD.out _ (List.getElem_mem hlt)
      rw [hlr] at hcm hlm
      generalize hR : mat[k] = R at *
      have HLR := Lib.hid hlr; clear hlr
      have HR := Lib.hid hR; clear hR
      have HRM := Lib.hid hrm; clear hrm
      have hcm' := HE.out.cl hcm
      have hc0' := HE.out.cl hc0
      clear hcm hc0 hr0 hl0 hm0
      go_wp2_with (refine wpList_make_S (enc := vB) 0 rfl rfl (.tmp 25) (.tmp 25) 22 5 1 wr.heap.size rfl Try.underlying22 info8v n rfl rfl rfl rfl (by omega) (by unfold maxLen; omega) (Nat.le_refl _) ?_; intro w2 ho2 hE2; obtain ⟨g, hg, hg1, hg2, hg3, hg4⟩ := HO.out.put_new (by decide) (k := k) (by rw [HLV.out]; exact hlt) HE.out.size ho2 hE2; injection hg with hg; injection hg with hg; subst hg; have HP := Lib.hid hg4; have HE2 := Lib.hid ((HE.out.tr hE2).set (p := ⟨w.heap.size, k, none⟩) (Nat.le_refl _) (.slice (some ⟨wr.heap.size, 0, none⟩) n n)); clear hg4 ho2 hE2 hc0' hcm')
      have HB := Lib.hid HE.out.size
      generalize wr.heap.size = B at HP HE2 HB ⊢
      go_loopw [30] (fun i wi => ∃ (j : Nat), j ≤ data.length ∧ i = .int .i64 j ∧ Hid (RowsW 22 5 wi w.heap.size (.slice (some ⟨w.heap.size, 0, none⟩) mat.length mat.length) (vs.set k (.slice (some ⟨B, 0, none⟩) n n)) ((fillTo W [] k).set k (prodTo R data n j))) ∧ Hid (Ext w wi)) (fun i _ => data.length - (intOf i).toNat)
      case atStart => exact ⟨0, by omega, rfl, HP, HE2⟩
      case round =>
        clear HP HE2 hg1 hg2 hg3 HO HE
        obtain ⟨j, hj, rfl, HP, HEi⟩ := hrel
        by_cases hlj : j < data.length
        · have hlx : (prodTo R data n j).length = n := prodTo_len _ _ _ HDN.out j hj
          have hkv : k < (vs.set k (Value.slice (some ⟨B, 0, none⟩) n n)).length := by rw [List.length_set, HLV.out]; exact hlt
          have hkx : k < ((fillTo W [] k).set k (prodTo R data n j)).length := by rw [List.length_set, fillTo_length, HWL.out]; exact hlt
          obtain ⟨g0, hg0, hgb, hc1⟩ := HP.out.at_ hkv
          injection hg0 with hg0; injection hg0 with hg0; subst hg0
          have hrow := HP.out.rows k hkv hkx
          rw [List.getElem_set_self] at hc1
          rw [List.getElem_set_self, List.getElem_set_self] at hrow
          obtain ⟨bj, oj, uj, ej, hbj, hcj, Aj, cj, rfl, hlj1, hmj, hrj⟩ := HD.out.at_ hlj
          injection ej with ej; injection ej with ej1 ej2; subst ej1 ej2
          have hdj := HDN.out _ (List.getElem_mem hlj)
          have hsj : SlV vB w (.slice Aj data[j].length cj) data[j] := ⟨_, _, rfl, hlj1, hmj, hrj⟩
          rw [hdj] at hcj hsj
          have hcj' := HEi.out.cl hcj
          obtain ⟨br, or, rfl, hbr, hcr⟩ := HRM.out.at_ (k := j) (by rw [HLR.out]; exact hlj)
          have hcr' := HEi.out.cl hcr
          unfold vB at hcr'
          have hadd := add_c _ _ (prodTo R data n j) data[j] (R[j]'(by rw [HLR.out]; exact hlj)) w wr.drew (hrow.ext (Ext.refl _).dr) hsj HEi.out.dr (by rw [hlx, hdj]) (by omega)
          have HADD := Lib.hid hadd
          clear hadd hrow hsj hcj hcr hlx hdj hrj hlj1 hmj hgb
          go_upto_region 9 with fail
          go_region_law (first | (go_simp; go_at_call 96; (with_reducible refine HADD.out.mono ?_); rintro e w3 ⟨rfl, ho3, hg3⟩))
          all_goals
            go_wp2_with fail
            refine ⟨⟨j + 1, by omega, by go_num, ?_, Lib.hid (HEi.out.dr.gr hg3 (fun q hq => by injection hq with hq; exact hq ▸ HB.out))⟩, by simp [intOf]; omega⟩
            have e3 : (vs.set k (Value.slice (some ⟨B, 0, none⟩) n n))[k]'hkv = Value.slice (some ⟨B, 0, none⟩) n n := by rw [List.getElem_set_self]
            have h := (HP.out.ext (Ext.refl _).dr).row (by decide) hkv (w' := w3) (x := addL (prodTo R data n j) data[j] (R[j]'(by rw [HLR.out]; exact hlj))) (by rw [e3]; exact ho3) (by rw [e3]; exact hg3)
            rw [List.set_set] at h
            have e : prodTo R data n (j + 1) = addL (prodTo R data n j) data[j] (R[j]'(by rw [HLR.out]; exact hlj)) := by
              rw [prodTo, List.getD_eq_getElem?_getD, List.getElem?_eq_getElem hlj, Option.getD_some, List.getD_eq_getElem?_getD, List.getElem?_eq_getElem (by rw [HLR.out]; exact hlj), Option.getD_some]
            rw [e]
            exact Lib.hid h
        · obtain rfl : j = data.length := by omega
          go_wp2
          refine ⟨⟨k + 1, vs.set k (.slice (some ⟨B, 0, none⟩) n n), by omega, by go_num, ?_, HEi⟩, by simp [intOf]; omega⟩
          have h := HP.out
          have e := fillTo_set (d := ([] : List UInt8)) (ys := W) k (by rw [HWL.out]; exact hlt)
          have e2 : W[k]'(by rw [HWL.out]; exact hlt) = prodTo R data n data.length := by simp [HW.out, prodL, HR.out]
          rw [e2] at e
          rw [e] at h
          exact Lib.hid h
    · obtain rfl : k = mat.length := by omega
      go_wp2
      go_ret
      refine ⟨_, vs, rfl, ?_, HE.out⟩
      have h := HO.out
      rw [← HWL.out, fillTo_all, HWL.out, HW.out] at h
      exact h
theorem OwnR.toS {T1 T2 : TypeId} {w : World} {base : Nat} {V : Value} {xss : List (List UInt8)} (h : OwnR (RO T1) T2 w base V xss) : SlR (SlV vB) w V xss := by
  obtain ⟨A, c, e, h1, h2, h3⟩ := h.sl
  refine ⟨A, c, e, h1, h2, fun hn => ?_⟩
  obtain ⟨b, o, e, hlt, hc⟩ := h3 hn
  exact ⟨b, o, e, hlt, fun k hk => by
    obtain ⟨v, hv, hr⟩ := hc k hk
    exact ⟨v, hv, OwnS.sl hr⟩⟩
set_option maxRecDepth 8000 in
theorem cencode_c (g k N : Nat) (mat data : List (List UInt8)) (v : Value) (n : Nat) (w : World) (hc : CodeAt w g k N mat) (hr : SlR (SlV vB) w v data) (hmd : ∀ r ∈ mat, r.length = k) (hd : ∀ x ∈ data, x.length = n) (hdk : data.length = k)
    (hn1 : 1 ≤ n) (hn : n < 256) (hml : mat.length ≤ 255) (hml1 : 1 ≤ mat.length) (hd1 : 1 ≤ k) (hd2 : k ≤ 255) :
    Calls Try.prog 70 #[.pointer (some ⟨g, 0, none⟩), v] w fun e w' => ∃ V vs, e = .returned (.tuple #[V, .int .i64 0]) ∧ RowsW 22 5 w' w.heap.size V vs (prodL mat data n) ∧ Ext w w' := by
  have hnone := none_c g k N mat w hc hd1
  have heven := fun w' (hE : Ext w w') => even_c v data n w' (hr.ext stays_S hE) hd
  obtain ⟨V, hb, hV⟩ := hc
  have hprod := fun w' (hE : Ext w w') => product_c V v mat data n w' (hV.toS.ext stays_S hE) (hr.ext stays_S hE) (by rw [hdk]; exact hmd) hd hn1 hn hml hml1 (by omega) (by omega)
  obtain ⟨A, c, rfl, hlc, hcm, hrd⟩ := hr
  obtain ⟨b0, o0, u0, rfl, hb0, hc0, A0, c0, rfl, hl0, hm0, hr0⟩ := hrd.at_ (k := 0) (by omega)
  rw [Nat.add_zero, hd _ (List.getElem_mem _)] at hc0
  have H1 := Lib.hid hnone
  have H2 := Lib.hid heven
  have H3 := Lib.hid hprod
  have H5 := Lib.hid hb
  have H6 := Lib.hid hc0
  rw [hdk] at H2 H3 ⊢
  clear hnone heven hprod hV hc0 hb hrd hr0 hl0 hm0 hdk hmd hd hlc
  unfold maxLen at hcm
  have e1 : ((k : Int) != (k : Int)) = false := by simp
  have e2 : ((n : Int) == 0) = false := by simp; omega
  go_enter Try.func70, Try.ntmps70
  go_wp2_with (first | (go_at_call 87; (with_reducible refine H1.out.mono ?_); rintro e w1 ⟨rfl, hE1⟩; have hc5 := fun i => blk_cell (hE1.heap H5.out) i; have hc5b := hc5 0) | (go_at_call 88; (with_reducible refine (H2.out _ hE1).mono ?_); rintro e w2 ⟨rfl, hE2⟩; have hE12 := hE1.tr hE2; have hc0 := hE12.cl H6.out; clear hc5 hc5b; have hc5 := fun i => blk_cell (hE12.heap H5.out) i; have hc5b := hc5 0) | (go_at_call 89; (with_reducible refine (H3.out _ hE12).mono ?_); rintro e w3 ⟨V3, vs, rfl, hR3, hE3⟩))
  go_ret2
  exact ⟨V3, vs, rfl, hR3.lower hE12.size, hE12.tr hE3⟩
end Go.Proofs.Ytmcgcfbdofpfdaa
