/- The walk of the loop of stripe.Split that deals a stripe's bytes out. -/
import Derived.Test.YtmcgcfbdofpfdaaSplitA
import Derived.Deep.MidRow
namespace Go.Proofs.Ytmcgcfbdofpfdaa
open Go.RowKit
attribute [local irreducible] gmul gpow ginv
/-- The loops of a code, in the text's order. -/
def loops : Code → List Code
  | .loop c => .loop c :: loops c
  | .seq a b => loops a ++ loops b
  | .block _ c => loops c
  | .scope c => loops c
  | .cond _ a b => loops a ++ loops b
  | _ => []
noncomputable def splitLoop (i : Nat) : Code := ((Try.f50.body.map loops).getD [])[i]?.getD .skip
set_option maxRecDepth 1000000 in
set_option maxHeartbeats 700000 in
theorem split_deal (K n gR : Nat) (d : List UInt8) (rs : List (List UInt8)) (W6 wr : World) (A0 : Option Addr) (c0 : Nat) (vs : List Value) (Q0 : Exit → Act → World → Prop) (t0 t2 t3 t4 t5 t6 t7 t8 t9 t10 t11 t12 t14 t16 t17 t18 t19 t20 t21 t22 t23 t24 t25 t26 t27 t28 t29 t30 t31 t32 t33 t34 t35 t36 t37 t38 t39 t40 t41 t42 t43 t44 t45 t46 t47 t48 t49 t50 t51 t52 t53 t54 t55 t56 t57 t58 t59 t60 t61 t62 t63 t64 t65 t66 t67 t68 t69 t70 t71 t72 t73 t74 t75 t76 t77 t78 t79 t80 t81 t82 t83 t84 t85 t86 t87 t88 t89 t92 t93 t94 t95 t96 t97 t98 t99 t100 t101 t102 t103 t104 t105 t106 t107 t108 t109 t110 t111 t112 t113 t114 t115 t116 t117 t118 t119 t120 t121 t122 t123 t124 t125 t126 t127 t128 t129 t130 t131 t132 t133 t134 t135 t136 t137 t138 t139 t140 t141 t142 t143 t144 t145 t146 t147 t148 t149 t150 t151 t152 t153 t154 t155 t156 t157 t158 t159 t160 t161 t162 t163 : Value)
    (hk2 : K ≤ 255) (hn : n ≤ 65536) (hrl : rs.length = K) (hrs : ∀ x ∈ rs, x.length ≤ 256) (hgR : W6.heap.size ≤ gR) (hdc : d.length ≤ c0) (hcm : c0 ≤ 9223372036854775807) (HRD : Hid (RdS vB W6 A0 d)) (HRW : Hid (RowsW 22 5 wr gR (.slice (some ⟨gR, 0, none⟩) K K) vs rs)) (HE : Hid (Ext W6 wr))
    (hexit : ∀ (A1 : Option Addr) (dl c1 : Nat) (vs' : List Value) (w' : World) (u16 u17 u92 u93 u94 u95 u96 u97 u98 u99 u100 u101 u102 u103 u104 u105 u106 u107 u108 u109 u110 u111 u112 u113 u114 u115 : Value), dl = (d.drop (K * n)).length → dl ≤ c1 → c1 ≤ 9223372036854775807 → Hid (RdS vB W6 A1 (d.drop (K * n))) → Hid (RowsW 22 5 w' gR (.slice (some ⟨gR, 0, none⟩) K K) vs' (dealL K n d rs)) → Hid (Ext W6 w') → Q0 (.exit 4) ⟨(t0 :: .slice A1 dl c1 :: t2 :: t3 :: t4 :: t5 :: t6 :: t7 :: t8 :: t9 :: t10 :: t11 :: t12 :: .slice (some ⟨gR, 0, none⟩) K K :: t14 :: .int .i64 n :: u16 :: u17 :: t18 :: t19 :: t20 :: t21 :: t22 :: t23 :: t24 :: t25 :: t26 :: t27 :: t28 :: t29 :: t30 :: t31 :: t32 :: t33 :: t34 :: t35 :: t36 :: t37 :: t38 :: t39 :: t40 :: t41 :: t42 :: t43 :: t44 :: t45 :: t46 :: t47 :: t48 :: t49 :: t50 :: t51 :: t52 :: t53 :: t54 :: t55 :: t56 :: t57 :: t58 :: t59 :: t60 :: t61 :: t62 :: t63 :: t64 :: t65 :: t66 :: t67 :: t68 :: t69 :: t70 :: t71 :: t72 :: t73 :: t74 :: t75 :: t76 :: t77 :: t78 :: t79 :: t80 :: t81 :: t82 :: t83 :: t84 :: t85 :: t86 :: t87 :: t88 :: t89 :: .int .i64 K :: .int .i64 K :: u92 :: u93 :: u94 :: u95 :: u96 :: u97 :: u98 :: u99 :: u100 :: u101 :: u102 :: u103 :: u104 :: u105 :: u106 :: u107 :: u108 :: u109 :: u110 :: u111 :: u112 :: u113 :: u114 :: u115 :: t116 :: t117 :: t118 :: t119 :: t120 :: t121 :: t122 :: t123 :: t124 :: t125 :: t126 :: t127 :: t128 :: t129 :: t130 :: t131 :: t132 :: t133 :: t134 :: t135 :: t136 :: t137 :: t138 :: t139 :: t140 :: t141 :: t142 :: t143 :: t144 :: t145 :: t146 :: t147 :: t148 :: t149 :: t150 :: t151 :: t152 :: t153 :: t154 :: t155 :: t156 :: t157 :: t158 :: t159 :: t160 :: t161 :: t162 :: t163 :: []).toArray, []⟩ w') :
    Code.wp Try.prog (splitLoop 2) Q0 ⟨(t0 :: .slice A0 d.length c0 :: t2 :: t3 :: t4 :: t5 :: t6 :: t7 :: t8 :: t9 :: t10 :: t11 :: t12 :: .slice (some ⟨gR, 0, none⟩) K K :: t14 :: .int .i64 n :: t16 :: t17 :: t18 :: t19 :: t20 :: t21 :: t22 :: t23 :: t24 :: t25 :: t26 :: t27 :: t28 :: t29 :: t30 :: t31 :: t32 :: t33 :: t34 :: t35 :: t36 :: t37 :: t38 :: t39 :: t40 :: t41 :: t42 :: t43 :: t44 :: t45 :: t46 :: t47 :: t48 :: t49 :: t50 :: t51 :: t52 :: t53 :: t54 :: t55 :: t56 :: t57 :: t58 :: t59 :: t60 :: t61 :: t62 :: t63 :: t64 :: t65 :: t66 :: t67 :: t68 :: t69 :: t70 :: t71 :: t72 :: t73 :: t74 :: t75 :: t76 :: t77 :: t78 :: t79 :: t80 :: t81 :: t82 :: t83 :: t84 :: t85 :: t86 :: t87 :: t88 :: t89 :: .int .i64 K :: .int .i64 0 :: t92 :: t93 :: t94 :: t95 :: t96 :: t97 :: t98 :: t99 :: t100 :: t101 :: t102 :: t103 :: t104 :: t105 :: t106 :: t107 :: t108 :: t109 :: t110 :: t111 :: t112 :: t113 :: t114 :: t115 :: t116 :: t117 :: t118 :: t119 :: t120 :: t121 :: t122 :: t123 :: t124 :: t125 :: t126 :: t127 :: t128 :: t129 :: t130 :: t131 :: t132 :: t133 :: t134 :: t135 :: t136 :: t137 :: t138 :: t139 :: t140 :: t141 :: t142 :: t143 :: t144 :: t145 :: t146 :: t147 :: t148 :: t149 :: t150 :: t151 :: t152 :: t153 :: t154 :: t155 :: t156 :: t157 :: t158 :: t159 :: t160 :: t161 :: t162 :: t163 :: []).toArray, []⟩ wr := by
  have HEX := Lib.hid hexit; clear hexit
  have HRL := Lib.hid hrl; clear hrl
  have HRS := Lib.hid hrs; clear hrs
  have HGR := Lib.hid hgR; clear hgR
  obtain ⟨W, hW⟩ : ∃ W, W = dealL K n d rs := ⟨_, rfl⟩
  have HWL := Lib.hid (show W.length = rs.length by rw [hW, dealL_len, HRL.out])
  have HW := Lib.hid hW; clear hW
  conv => arg 2; whnf
  go_loopw [1, 91] (fun u i wr => ∃ (j : Nat) (A' : Option Addr) (c' : Nat) (d' : List UInt8) (vs : List Value), j ≤ K ∧ i = .int .i64 j ∧ u = .slice A' d'.length c' ∧ d'.length ≤ c' ∧ c' ≤ 9223372036854775807 ∧ Hid (d' = d.drop (j * n)) ∧ Hid (RdS vB W6 A' d') ∧ Hid (RowsW 22 5 wr gR (.slice (some ⟨gR, 0, none⟩) K K) vs (mixTo W rs j)) ∧ Hid (Ext W6 wr)) (fun _ i _ => K - (intOf i).toNat)
  case atStart => exact ⟨0, A0, c0, d, vs, by omega, rfl, rfl, by omega, by omega, Lib.hid (by simp), HRD, by rw [mixTo_zero]; exact HRW, HE⟩
  case round =>
    clear HRD HRW HE hdc hcm
    obtain ⟨j, A', c', d', vs, hj, rfl, rfl, hdc, hcm', HD', HRD, HRW, HE⟩ := hrel
    have HBR := Lib.hid (show gR ≤ wr.heap.size from Nat.le_of_lt (HRW.out.own.lt gR rfl))
    by_cases hlt3 : j < K
    · obtain ⟨X, hX⟩ : ∃ X, X = (d'.take n).map vB := ⟨_, rfl⟩
      obtain ⟨m, hm⟩ : ∃ m, m = X.length := ⟨_, rfl⟩
      have hmx : m = min n d'.length := by rw [hm, hX]; simp
      have hpos : 0 < X.length → ∃ ad, A' = some ad ∧ ∀ j v, X[j]? = some v → W6.cell? (ad.add j) = some v := fun h0 => by
        have hl0 : 0 < d'.length := by omega
        obtain ⟨b, o, e, _, _⟩ := HRD.out.at_ hl0
        refine ⟨_, e, fun q v hv => ?_⟩
        have hq : q < d'.length := by
          have := (List.getElem?_eq_some_iff.1 hv).1
          omega
        obtain ⟨b', o', e', _, hc⟩ := HRD.out.at_ hq
        rw [e] at e'
        injection e' with e'
        injection e' with e1 e2
        subst e1 e2
        rw [Addr.add_lit, hc]
        rw [hX, List.getElem?_map, List.getElem?_take] at hv
        split at hv
        · simpa [hq] using hv
        · simp at hv
      have HPOS := Lib.hid hpos; clear hpos
      have hml : m ≤ d'.length := by omega
      have hmn : m ≤ n := by omega
      have hXn : X.length = Nat.min d'.length n := by rw [← hm, hmx, Nat.min_comm]
      have HXN := Lib.hid hXn; clear hXn
      have HM := Lib.hid hm; clear hm
      have HMX := Lib.hid hmx; clear hmx
      have HX1 := Lib.hid (show ∀ v ∈ X, v.oneCell' = true from fun v hv => by rw [hX] at hv; obtain ⟨x, _, rfl⟩ := List.mem_map.1 hv; rfl)
      have HX := Lib.hid hX; clear hX
      have hkv : j < vs.length := by rw [HRW.out.len, mixTo_length _ HWL.out, HRL.out]; exact hlt3
      have hjr : j < rs.length := by rw [HRL.out]; exact hlt3
      have hrow := HRW.out.rows j hkv (by rw [mixTo_length _ HWL.out]; exact hjr)
      rw [mixTo_get j HWL.out hjr] at hrow
      obtain ⟨Av, cv, hvj, hv1, hv2, _⟩ := hrow.form
      unfold maxLen at hv2
      have hrj : rs[j].length ≤ 256 := HRS.out _ (List.getElem_mem hjr)
      obtain ⟨g0, hg0, _, hcj⟩ := HRW.out.at_ hkv
      injection hg0 with hg0; injection hg0 with hg0; subst hg0
      rw [hvj] at hcj hrow
      have HVJ := Lib.hid hvj; clear hvj
      have HROW := Lib.hid hrow; clear hrow
      generalize hRJ : rs[j] = rj at hv1 hrj hcj HROW HVJ
      have HRJ := Lib.hid hRJ; clear hRJ
      clear hv1 hv2
      by_cases hdn : n < d'.length
      all_goals
        go_upto_region 25 with (first | ((with_reducible show wpList _ _ _ ({ dst := some 95, op := .makeSlice 22 (.tmp 94) (.tmp 94), type := _, pos := _, after := _, guard := none } :: _) _ _); refine wpList_make_S (enc := vB) 0 rfl rfl (.tmp 94) (.tmp 94) 22 5 1 wr.heap.size rfl Try.underlying22 info8v n rfl rfl rfl rfl (by omega) (by unfold maxLen; omega) (Nat.le_refl _) ?_; intro w9 ho9 hE9; have HO9 := Lib.hid ho9; have HE9 := Lib.hid hE9; clear ho9 hE9) | ((with_reducible show wpList _ _ _ ({ dst := some 104, op := .call { callee := .builtin .copy, args := #[.tmp 97, .tmp 103], argTypes := #[22, 22] }, type := _, pos := _, after := _, guard := none } :: _) _ _); first | (refine wpList_copy_splice rfl (.tmp 97) (.tmp 103) 22 22 rfl 5 Try.underlying22 (by kernel_rfl) (some ⟨wr.heap.size, 0, none⟩) A' n n n c' rfl rfl wr.heap.size 0 ((List.replicate n (0 : UInt8)).map vB) 5 (OwnS.full HO9.out) X (by rw [HXN.out] <;> (simp only [Nat.min_def]; split <;> split <;> omega)) (fun h0 => ⟨rfl, by obtain ⟨ad, e, hc⟩ := HPOS.out h0; exact ⟨ad, e, fun q v hv => (HE.out.tr HE9.out).cl (hc q v hv)⟩⟩) (by rw [← HM.out]; simp only [List.length_map, List.length_replicate]; omega) HX1.out wr.heap.size wr HE9.out (Nat.le_refl _) ?_; intro w10 hb10 hE10; rw [← HM.out]; rw [HX.out, splice_pad] at hb10; have HB10 := hb10; have HE10 := Lib.hid hE10; clear hb10 hE10) | (refine wpList_copy_splice rfl (.tmp 97) (.tmp 103) 22 22 rfl 5 Try.underlying22 (by kernel_rfl) (some ⟨wr.heap.size, 0, none⟩) A' n n d'.length c' rfl rfl wr.heap.size 0 ((List.replicate n (0 : UInt8)).map vB) 5 (OwnS.full HO9.out) X (by rw [HXN.out] <;> (simp only [Nat.min_def]; split <;> split <;> omega)) (fun h0 => ⟨rfl, by obtain ⟨ad, e, hc⟩ := HPOS.out h0; exact ⟨ad, e, fun q v hv => (HE.out.tr HE9.out).cl (hc q v hv)⟩⟩) (by rw [← HM.out]; simp only [List.length_map, List.length_replicate]; omega) HX1.out wr.heap.size wr HE9.out (Nat.le_refl _) ?_; intro w10 hb10 hE10; rw [← HM.out]; rw [HX.out, splice_pad] at hb10; have HB10 := hb10; have HE10 := Lib.hid hE10; clear hb10 hE10)))
        generalize hA : (@ite (Option Addr) (c' = m) _ A' _) = A1
        have hr1 := HRD.out.drop (n := m) hdc
        rw [hA] at hr1
        have hdm : d'.drop m = d.drop ((j + 1) * n) := by
          have e : d'.drop m = d'.drop n := by
            have hm := HMX.out
            by_cases h0 : n ≤ d'.length
            · rw [show m = n from by omega]
            · rw [List.drop_of_length_le (by omega), List.drop_of_length_le (by omega)]
          rw [e, HD'.out, List.drop_drop, Nat.succ_mul]
        rw [hdm] at hr1
        have hdl : (d.drop ((j + 1) * n)).length = d'.length - m := by rw [← hdm, List.length_drop]
        have HDL := Lib.hid hdl
        have HR1 := Lib.hid hr1
        have HRow := Lib.hid (RdS.blk (enc := vB) HB10.out 0 (padL n d') (fun q hq => by rw [Nat.zero_add]; show ((padL n d').map vB).toArray[q]? = _; simp [hq]))
        have hEc : Ext wr w10 := HE10.out
        clear hr1 hA hdm hdl
        have hcj' := hEc.cl hcj
        go_wp2_with (first | ((with_reducible show wpList _ _ _ ({ dst := some 113, op := .call { callee := .builtin .append, args := #[.tmp 111, .tmp 112], argTypes := #[22, 22] }, type := _, pos := _, after := _, guard := none } :: _) _ _); refine wpList_append_S (enc := vB) (fun _ _ => rfl) rfl (.tmp 111) (.tmp 112) 22 5 _ 1 gR rfl Try.underlying22 info8 rfl (v := .slice Av rj.length cv) rfl (HROW.out.ext HE10.out) rfl (padL_len n d').symm HRow.out (by rw [padL_len]; unfold maxLen; omega) (by rw [padL_len]; omega) (Nat.le_trans HBR.out HE10.out.size) ?_; intro v11 w11 ho11 hg11 ha11; obtain ⟨g, hgA, hg1, hg2, hg3, hg4⟩ := (HRW.out.ext HE10.out).app (by decide) hkv ho11 (by rw [HVJ.out]; exact hg11) (by rw [HVJ.out]; exact ha11); injection hgA with hgA; injection hgA with hgA; subst hgA; have HP := Lib.hid hg4; obtain ⟨A11, c11, hv11, _, _, _⟩ := ho11.form; subst hv11; rw [HVJ.out] at hg2; have HG11 := Lib.hid hg11; have HGE := Lib.hid (HROW.out.ge); clear hg4 ho11 hg11 ha11 hcj'))
        have h := HP.out
        rw [List.length_append] at h
        have hjW : j < W.length := by rw [HWL.out]; exact hjr
        have e : W[j]'hjW = rj ++ padL n d' := by
          simp only [HW.out, dealL, List.getElem_map, List.getElem_range]
          rw [List.getD_eq_getElem?_getD, List.getElem?_eq_getElem hjr, Option.getD_some, HRJ.out, HD'.out]
        have e3 := mixTo_set (ys := W) (xs := rs) j HWL.out hjr
        rw [e] at e3
        rw [e3] at h
        exact ⟨⟨j + 1, A1, c' - m, d.drop ((j + 1) * n), _, by omega, by go_num, congrArg (fun q => Value.slice A1 q (c' - m)) HDL.out.symm, by have := HDL.out; omega, by omega, Lib.hid rfl, HR1, Lib.hid h, Lib.hid (((HE.out.tr HE10.out).gr HG11.out (fun q hq => Nat.le_trans HGR.out (HGE.out q hq))).set HGR.out _)⟩, by simp [intOf]; omega⟩
    · obtain rfl : j = K := by omega
      have hw := HRW.out
      have e : mixTo W rs j = dealL j n d rs := by
        have := mixTo_all (ys := W) (xs := rs) HWL.out
        rw [HRL.out] at this
        rw [this, HW.out]
      rw [e] at hw
      have hd := HD'.out
      subst hd
      go_wp2_with fail
      exact HEX.out _ _ _ _ _ _ _ _ _ _ _ _ _ _ _ _ _ _ _ _ _ _ _ _ _ _ _ _ _ _ _ (by simp) (by simpa using hdc) hcm' HRD (Lib.hid hw) HE
end Go.Proofs.Ytmcgcfbdofpfdaa
