/- The walk of TopSummed's first statements. -/
import Derived.Test.YtmcgcfbdofpfdaaTopSumA
import Derived.Deep.DeepCutAuto
namespace Go.Proofs.Ytmcgcfbdofpfdaa
open Go.RowKit
set_option maxRecDepth 1000000 in
set_option maxHeartbeats 1000000 in
theorem ts8 {t1 t2 t4 t5 t6 t7 t8 t10 t11 t12 t13 t14 t15 t16 t17 t18 t19 t20 t21 t22 t23 t24 t25 t26 t27 t28 t29 t30 t31 t32 t33 t34 t35 t36 t37 t38 t39 t40 t41 t42 t43 t44 t45 t46 t47 t48 t49 t50 t51 t52 t53 t54 t55 t56 t57 t58 t59 t60 t61 t62 t63 t64 t65 t66 t67 t68 t69 t70 t71 t72 t73 t74 t75 t76 t77 t78 t79 t80 t81 t82 t83 t84 t85 t86 t87 t88 t89 t90 t91 t92 t93 t94 t95 t96 t97 t98 t99 t100 t101 t102 t103 t104 t105 t106 t107 t108 t109 t110 t111 t112 t113 t114 t115 t116 t117 t118 t119 t120 t121 t122 t123 t124 t125 t126 t127 t128 t129 t130 t131 t132 t133 t134 t135 t136 t137 t138 t139 t140 t141 t142 t143 t144 t145 t146 t147 t148 t149 t150 t151 t152 t153 t154 t155 t156 t157 t158 t159 t160 t161 t162 t163 t164 t165 t166 t167 t168 t169 t170 t171 t172 t173 t174 t175 t176 t177 t178 t179 t180 t181 t182 t183 t184 t185 t186 t187 t188 t189 t190 t191 t192 t193 t194 t195 t196 t197 t198 t199 : Value} (b p0 : List UInt8) (A0 A3 : Option Addr) (c0 c3 : Nat) (g : Nat) (s : UInt32) (n : Int) (W0 w : World) (HST : Hid (StreamAt w g s n)) (hg : W0.heap.size ≤ g) (HRB : Hid (RdS vB W0 A0 b)) (HRP0 : Hid (RdS vB W0 A3 p0)) (hc0 : b.length ≤ c0) (hc3 : p0.length ≤ c3) (hm0 : c0 ≤ 9223372036854775807) (hm3 : c3 ≤ 9223372036854775807) (hb : b.length ≤ 80) (HE : Hid (Ext W0 w)) :
    (tailN 8 sumBody).wp Try.prog (QE 8 W0) ⟨(.slice A0 b.length c0 :: t1 :: t2 :: .slice A3 p0.length c3 :: t4 :: t5 :: t6 :: t7 :: t8 :: .pointer (some ⟨g, 0, none⟩) :: t10 :: t11 :: t12 :: t13 :: t14 :: t15 :: t16 :: t17 :: t18 :: t19 :: t20 :: t21 :: t22 :: t23 :: t24 :: t25 :: t26 :: t27 :: t28 :: t29 :: t30 :: t31 :: t32 :: t33 :: t34 :: t35 :: t36 :: t37 :: t38 :: t39 :: t40 :: t41 :: t42 :: t43 :: t44 :: t45 :: t46 :: t47 :: t48 :: t49 :: t50 :: t51 :: t52 :: t53 :: t54 :: t55 :: t56 :: t57 :: t58 :: t59 :: t60 :: t61 :: t62 :: t63 :: t64 :: t65 :: t66 :: t67 :: t68 :: t69 :: t70 :: t71 :: t72 :: t73 :: t74 :: t75 :: t76 :: t77 :: t78 :: t79 :: t80 :: t81 :: t82 :: t83 :: t84 :: t85 :: t86 :: t87 :: t88 :: t89 :: t90 :: t91 :: t92 :: t93 :: t94 :: t95 :: t96 :: t97 :: t98 :: t99 :: t100 :: t101 :: t102 :: t103 :: t104 :: t105 :: t106 :: t107 :: t108 :: t109 :: t110 :: t111 :: t112 :: t113 :: t114 :: t115 :: t116 :: t117 :: t118 :: t119 :: t120 :: t121 :: t122 :: t123 :: t124 :: t125 :: t126 :: t127 :: t128 :: t129 :: t130 :: t131 :: t132 :: t133 :: t134 :: t135 :: t136 :: t137 :: t138 :: t139 :: t140 :: t141 :: t142 :: t143 :: t144 :: t145 :: t146 :: t147 :: t148 :: t149 :: t150 :: t151 :: t152 :: t153 :: t154 :: t155 :: t156 :: t157 :: t158 :: t159 :: t160 :: t161 :: t162 :: t163 :: t164 :: t165 :: t166 :: t167 :: t168 :: t169 :: t170 :: t171 :: t172 :: t173 :: t174 :: t175 :: t176 :: t177 :: t178 :: t179 :: t180 :: t181 :: t182 :: t183 :: t184 :: t185 :: t186 :: t187 :: t188 :: t189 :: t190 :: t191 :: t192 :: t193 :: t194 :: t195 :: t196 :: t197 :: t198 :: t199 :: []).toArray, []⟩ w := by
  refine wp_step rfl fun K hK => ?_
  have HK := Lib.hid hK; clear hK
  conv => arg 2; whnf
  obtain ⟨p, hp⟩ : ∃ p, p = p0.take b.length := ⟨_, rfl⟩
  have hpl : p.length = min b.length p0.length := by rw [hp]; simp
  obtain ⟨m, hm⟩ : ∃ m, m = p.length := ⟨_, rfl⟩
  have q1 : (if b.length < p0.length then (b.length : Int) else (p0.length : Int)) = (m : Int) := by rw [hm, hpl]; split <;> omega
  have q2 : (if (b.length : Int) < (p0.length : Int) then (b.length : Int) else (p0.length : Int)) = (m : Int) := by rw [hm, hpl]; split <;> omega
  have hmb : m ≤ b.length := by omega
  have hmc : m ≤ c3 := by omega
  have HRP := Lib.hid (show RdS vB W0 A3 p by rw [hp]; exact HRP0.out.take _)
  have HM := Lib.hid hm; clear hm hp hpl
  go_wp2_with fail
  have e := HM.out
  subst e
  exact HK.out _ _ (ts9 b p A0 A3 c0 c3 g s n W0 _ HST hg HRB HRP hc0 hmc hm0 hm3 hb hmb HE)
set_option maxRecDepth 1000000 in
set_option maxHeartbeats 1000000 in
theorem ts7 {t1 t2 t4 t5 t6 t7 t8 t10 t11 t13 t14 t15 t17 t18 t19 t20 t21 t22 t23 t24 t25 t26 t27 t28 t29 t30 t31 t32 t33 t34 t35 t36 t37 t38 t39 t40 t41 t42 t43 t44 t45 t46 t47 t48 t49 t50 t51 t52 t53 t54 t55 t56 t57 t58 t59 t60 t61 t62 t63 t64 t65 t66 t67 t68 t69 t70 t71 t72 t73 t74 t75 t76 t77 t78 t79 t80 t81 t82 t83 t84 t85 t86 t87 t88 t89 t90 t91 t92 t93 t94 t95 t96 t97 t98 t99 t100 t101 t102 t103 t104 t105 t106 t107 t108 t109 t110 t111 t112 t113 t114 t115 t116 t117 t118 t119 t120 t121 t122 t123 t124 t125 t126 t127 t128 t129 t130 t131 t132 t133 t134 t135 t136 t137 t138 t139 t140 t141 t142 t143 t144 t145 t146 t147 t148 t149 t150 t151 t152 t153 t154 t155 t156 t157 t158 t159 t160 t161 t162 t163 t164 t165 t166 t167 t168 t169 t170 t171 t172 t173 t174 t175 t176 t177 t178 t179 t180 t181 t182 t183 t184 t185 t186 t187 t188 t189 t190 t191 t192 t193 t194 t195 t196 t197 t198 t199 : Value} (b p0 : List UInt8) (A0 A3 : Option Addr) (c0 c3 : Nat) (g : Nat) (s : UInt32) (n : Int) (Az : Option Addr) (z cz : Nat) (W0 w : World) (HST : Hid (StreamAt w g s n)) (hg : W0.heap.size ≤ g) (HRB : Hid (RdS vB W0 A0 b)) (HRP0 : Hid (RdS vB W0 A3 p0)) (hc0 : b.length ≤ c0) (hc3 : p0.length ≤ c3) (hm0 : c0 ≤ 9223372036854775807) (hm3 : c3 ≤ 9223372036854775807) (hb : b.length ≤ 80) (hz : z ≤ 200) (hzc : z ≤ cz) (hzm : cz ≤ 9223372036854775807) (HRZ : Hid (RdS vB w Az (List.replicate z 0))) (HE : Hid (Ext W0 w)) :
    (tailN 7 sumBody).wp Try.prog (QE 8 W0) ⟨(.slice A0 b.length c0 :: t1 :: t2 :: .slice A3 p0.length c3 :: t4 :: t5 :: t6 :: t7 :: t8 :: .pointer (some ⟨g, 0, none⟩) :: t10 :: t11 :: .int .i64 b.length :: t13 :: t14 :: t15 :: .slice Az z cz :: t17 :: t18 :: t19 :: t20 :: t21 :: t22 :: t23 :: t24 :: t25 :: t26 :: t27 :: t28 :: t29 :: t30 :: t31 :: t32 :: t33 :: t34 :: t35 :: t36 :: t37 :: t38 :: t39 :: t40 :: t41 :: t42 :: t43 :: t44 :: t45 :: t46 :: t47 :: t48 :: t49 :: t50 :: t51 :: t52 :: t53 :: t54 :: t55 :: t56 :: t57 :: t58 :: t59 :: t60 :: t61 :: t62 :: t63 :: t64 :: t65 :: t66 :: t67 :: t68 :: t69 :: t70 :: t71 :: t72 :: t73 :: t74 :: t75 :: t76 :: t77 :: t78 :: t79 :: t80 :: t81 :: t82 :: t83 :: t84 :: t85 :: t86 :: t87 :: t88 :: t89 :: t90 :: t91 :: t92 :: t93 :: t94 :: t95 :: t96 :: t97 :: t98 :: t99 :: t100 :: t101 :: t102 :: t103 :: t104 :: t105 :: t106 :: t107 :: t108 :: t109 :: t110 :: t111 :: t112 :: t113 :: t114 :: t115 :: t116 :: t117 :: t118 :: t119 :: t120 :: t121 :: t122 :: t123 :: t124 :: t125 :: t126 :: t127 :: t128 :: t129 :: t130 :: t131 :: t132 :: t133 :: t134 :: t135 :: t136 :: t137 :: t138 :: t139 :: t140 :: t141 :: t142 :: t143 :: t144 :: t145 :: t146 :: t147 :: t148 :: t149 :: t150 :: t151 :: t152 :: t153 :: t154 :: t155 :: t156 :: t157 :: t158 :: t159 :: t160 :: t161 :: t162 :: t163 :: t164 :: t165 :: t166 :: t167 :: t168 :: t169 :: t170 :: t171 :: t172 :: t173 :: t174 :: t175 :: t176 :: t177 :: t178 :: t179 :: t180 :: t181 :: t182 :: t183 :: t184 :: t185 :: t186 :: t187 :: t188 :: t189 :: t190 :: t191 :: t192 :: t193 :: t194 :: t195 :: t196 :: t197 :: t198 :: t199 :: []).toArray, []⟩ w := by
  refine wp_step rfl fun K hK => ?_
  have HK := Lib.hid hK; clear hK
  conv => arg 2; whnf
  have HX := Lib.hid (Ext.refl w)
  have hsb : ∀ W, Ext W0 W → SlV vB W (.slice A0 b.length c0) b := fun W h => ⟨_, _, rfl, hc0, by unfold maxLen; omega, HRB.out.ext h⟩
  have HSB := Lib.hid hsb; clear hsb
  have e1 : ((b.length : Int) != (b.length : Int)) = false := by simp
  have hsz : ∀ W, Ext w W → SlV vB W (.slice Az z cz) (List.replicate z 0) := fun W h => ⟨Az, cz, by rw [List.length_replicate], by rw [List.length_replicate]; exact hzc, by unfold maxLen; omega, HRZ.out.ext h⟩
  have HSZ := Lib.hid hsz; clear hsz
  have hj : joinW (sumW b) (sumW (List.replicate z 0)) (z : Int) = sumW (b ++ List.replicate z 0) := by
    have := sum_join b (List.replicate z 0)
    rwa [List.length_replicate] at this
  have HJ : Hid (∀ W, Calls Try.prog 10 #[.int .u32 (w32 (sumW b)), .int .u32 (w32 (sumW (List.replicate z 0))), .int .i64 z] W fun e w' => e = .returned (.int .u32 (w32 (sumW (b ++ List.replicate z 0)))) ∧ Ext W w') := Lib.hid (fun W => by
    have := join_c (sumW b) (sumW (List.replicate z 0)) z W (by omega) (by omega)
    rwa [hj] at this)
  have HJ7 : Hid (∀ W, Calls Try.prog 10 #[.int .u32 (w32 (sumW b)), .int .u32 7, .int .i64 (-1)] W fun e w' => e = .returned (.int .u32 (w32 (sumW b ^^^ 7))) ∧ Ext W w') := Lib.hid (fun W => join_c (sumW b) 7 (-1) W (by omega) (by omega))
  have hx7 : bits .xor .u32 (w32 (sumW b)) 7 = w32 (sumW b ^^^ 7) := w_xor (sumW b) 7
  clear hj
  go_wp2_with (first | (go_at_call 7; (with_reducible refine (copied_c _ b _ (HSB.out _ HE.out) (by omega)).mono ?_); rintro e' w2 ⟨v2, rfl, ho2, hE2⟩; have HO2 := Lib.hid ho2; have HB2 := Lib.hid (HE.out.size); have HBX := Lib.hid (HX.out.size); clear ho2; have HE := Lib.hid (HE.out.tr hE2); have HX := Lib.hid (HX.out.tr hE2); have HST := Lib.hid (HST.out.ext hE2); clear hE2) | ((with_reducible show wpList _ _ _ ({ dst := some 118, op := .call { callee := .builtin .append, args := #[.tmp 116, .tmp 117], argTypes := #[22, 22] }, type := _, pos := _, after := _, guard := _ } :: _) _ _); refine wpList_wanted rfl fun K hK => ?_; refine wp_append_S (enc := vB) (fun _ _ => rfl) (.tmp 116) (.tmp 117) 22 5 _ 1 W0.heap.size rfl Try.underlying22 info8 rfl (v := v2) rfl (HO2.out.lower HB2.out) rfl (by rw [List.length_replicate]) (HRZ.out.ext HX.out) (by simp; unfold maxLen; omega) (by simp; omega) HE.out.size ?_; intro v3 w3 ho3 hg3 _; refine hK _ _ ?_; clear hK; have HST := Lib.hid (HST.out.gb hg3 (own_ne HO2.out HST.out (by decide))); have HE := Lib.hid (HE.out.gr hg3 (fun q hq => Nat.le_trans HB2.out (HO2.out.ge q hq))); have HX := Lib.hid (HX.out.gr hg3 (fun q hq => Nat.le_trans HBX.out (HO2.out.ge q hq))); have HSL := Lib.hid ho3.sl; clear ho3 hg3) | (go_at_call 8; (with_reducible refine (sum6_c _ b _ (HSB.out _ HE.out)).mono ?_); rintro e' w2 ⟨rfl, rfl⟩) | (go_at_call 8; (with_reducible refine (sum6_c _ _ _ (HSZ.out _ HX.out)).mono ?_); rintro e' w2 ⟨rfl, rfl⟩) | (go_at_call 8; (with_reducible refine (sum6_c _ _ _ HSL.out).mono ?_); rintro e' w2 ⟨rfl, rfl⟩) | (go_at_call 10; (with_reducible refine (HJ.out _).mono ?_); rintro e' w2 ⟨rfl, hE2⟩; have HE := Lib.hid (HE.out.tr hE2); have HX := Lib.hid (HX.out.tr hE2); have HST := Lib.hid (HST.out.ext hE2); clear hE2) | (go_at_call 10; (with_reducible refine (HJ7.out _).mono ?_); rintro e' w2 ⟨rfl, hE2⟩; have HE := Lib.hid (HE.out.tr hE2); have HX := Lib.hid (HX.out.tr hE2); have HST := Lib.hid (HST.out.ext hE2); clear hE2))
  exact HK.out _ _ (ts8 b p0 A0 A3 c0 c3 g s n W0 _ HST hg HRB HRP0 hc0 hc3 hm0 hm3 hb HE)
set_option maxRecDepth 1000000 in
set_option maxHeartbeats 1000000 in
theorem ts6 {t1 t4 t5 t6 t7 t8 t10 t11 t13 t14 t15 t16 t17 t18 t19 t20 t21 t22 t23 t24 t25 t26 t27 t28 t29 t30 t31 t32 t33 t34 t35 t36 t37 t38 t39 t40 t41 t42 t43 t44 t45 t46 t47 t48 t49 t50 t51 t52 t53 t54 t55 t56 t57 t58 t59 t60 t61 t62 t63 t64 t65 t66 t67 t68 t69 t70 t71 t72 t73 t74 t75 t76 t77 t78 t79 t80 t81 t82 t83 t84 t85 t86 t87 t88 t89 t90 t91 t92 t93 t94 t95 t96 t97 t98 t99 t100 t101 t102 t103 t104 t105 t106 t107 t108 t109 t110 t111 t112 t113 t114 t115 t116 t117 t118 t119 t120 t121 t122 t123 t124 t125 t126 t127 t128 t129 t130 t131 t132 t133 t134 t135 t136 t137 t138 t139 t140 t141 t142 t143 t144 t145 t146 t147 t148 t149 t150 t151 t152 t153 t154 t155 t156 t157 t158 t159 t160 t161 t162 t163 t164 t165 t166 t167 t168 t169 t170 t171 t172 t173 t174 t175 t176 t177 t178 t179 t180 t181 t182 t183 t184 t185 t186 t187 t188 t189 t190 t191 t192 t193 t194 t195 t196 t197 t198 t199 : Value} (b p0 : List UInt8) (A0 A3 : Option Addr) (c0 c3 : Nat) (g : Nat) (s : UInt32) (n : Int) (nn : UInt8) (W0 w : World) (HST : Hid (StreamAt w g s n)) (hg : W0.heap.size ≤ g) (HRB : Hid (RdS vB W0 A0 b)) (HRP0 : Hid (RdS vB W0 A3 p0)) (hc0 : b.length ≤ c0) (hc3 : p0.length ≤ c3) (hm0 : c0 ≤ 9223372036854775807) (hm3 : c3 ≤ 9223372036854775807) (hb : b.length ≤ 80) (HE : Hid (Ext W0 w)) :
    (tailN 6 sumBody).wp Try.prog (QE 8 W0) ⟨(.slice A0 b.length c0 :: t1 :: .int .u8 (b8 nn) :: .slice A3 p0.length c3 :: t4 :: t5 :: t6 :: t7 :: t8 :: .pointer (some ⟨g, 0, none⟩) :: t10 :: t11 :: .int .i64 b.length :: t13 :: t14 :: t15 :: t16 :: t17 :: t18 :: t19 :: t20 :: t21 :: t22 :: t23 :: t24 :: t25 :: t26 :: t27 :: t28 :: t29 :: t30 :: t31 :: t32 :: t33 :: t34 :: t35 :: t36 :: t37 :: t38 :: t39 :: t40 :: t41 :: t42 :: t43 :: t44 :: t45 :: t46 :: t47 :: t48 :: t49 :: t50 :: t51 :: t52 :: t53 :: t54 :: t55 :: t56 :: t57 :: t58 :: t59 :: t60 :: t61 :: t62 :: t63 :: t64 :: t65 :: t66 :: t67 :: t68 :: t69 :: t70 :: t71 :: t72 :: t73 :: t74 :: t75 :: t76 :: t77 :: t78 :: t79 :: t80 :: t81 :: t82 :: t83 :: t84 :: t85 :: t86 :: t87 :: t88 :: t89 :: t90 :: t91 :: t92 :: t93 :: t94 :: t95 :: t96 :: t97 :: t98 :: t99 :: t100 :: t101 :: t102 :: t103 :: t104 :: t105 :: t106 :: t107 :: t108 :: t109 :: t110 :: t111 :: t112 :: t113 :: t114 :: t115 :: t116 :: t117 :: t118 :: t119 :: t120 :: t121 :: t122 :: t123 :: t124 :: t125 :: t126 :: t127 :: t128 :: t129 :: t130 :: t131 :: t132 :: t133 :: t134 :: t135 :: t136 :: t137 :: t138 :: t139 :: t140 :: t141 :: t142 :: t143 :: t144 :: t145 :: t146 :: t147 :: t148 :: t149 :: t150 :: t151 :: t152 :: t153 :: t154 :: t155 :: t156 :: t157 :: t158 :: t159 :: t160 :: t161 :: t162 :: t163 :: t164 :: t165 :: t166 :: t167 :: t168 :: t169 :: t170 :: t171 :: t172 :: t173 :: t174 :: t175 :: t176 :: t177 :: t178 :: t179 :: t180 :: t181 :: t182 :: t183 :: t184 :: t185 :: t186 :: t187 :: t188 :: t189 :: t190 :: t191 :: t192 :: t193 :: t194 :: t195 :: t196 :: t197 :: t198 :: t199 :: []).toArray, []⟩ w := by
  refine wp_step rfl fun K hK => ?_
  have HK := Lib.hid hK; clear hK
  conv => arg 2; whnf
  have hnr := u8_r nn
  obtain ⟨z, hz⟩ : ∃ z : Nat, z = nn.toNat % 201 := ⟨_, rfl⟩
  have hz1 : (b8 nn).tmod 201 = (z : Int) := by
    rw [Int.tmod_eq_emod_of_nonneg hnr.1, hz]; unfold b8; omega
  have hz2 : z ≤ 200 := by omega
  have h64 : IntKind.i64.wrap (b8 nn) = b8 nn := IntWalk.i64_in _ (by omega)
  clear hz
  go_wp2_with (first | ((with_reducible show wpList _ _ _ ({ dst := some 102, op := .makeSlice 22 (.tmp 101) (.tmp 101), type := _, pos := _, after := _, guard := _ } :: _) _ _); refine wpList_make_S (enc := vB) 0 rfl rfl (.tmp 101) (.tmp 101) 22 5 1 w.heap.size rfl Try.underlying22 info8v z rfl rfl rfl rfl (by omega) (by unfold maxLen; omega) (Nat.le_refl _) ?_; intro w2 ho2 hE2; have HRZ := Lib.hid ho2.rd; have HST := Lib.hid (HST.out.ext hE2); have HE := Lib.hid (HE.out.tr hE2); clear ho2 hE2))
  exact HK.out _ _ (ts7 b p0 A0 A3 c0 c3 g s n _ z z W0 _ HST hg HRB HRP0 hc0 hc3 hm0 hm3 hb hz2 (Nat.le_refl _) (by omega) HRZ HE)
set_option maxRecDepth 1000000 in
set_option maxHeartbeats 4000000 in
theorem ts5 {t4 t5 t6 t7 t8 t13 t14 t15 t16 t17 t18 t19 t20 t21 t22 t23 t24 t25 t26 t27 t28 t29 t30 t31 t32 t33 t34 t35 t36 t37 t38 t39 t40 t41 t42 t43 t44 t45 t46 t47 t48 t49 t50 t51 t52 t53 t54 t55 t56 t57 t58 t59 t60 t61 t62 t63 t64 t65 t66 t67 t68 t69 t70 t71 t72 t73 t74 t75 t76 t77 t78 t79 t80 t81 t82 t83 t84 t85 t86 t87 t88 t89 t90 t91 t92 t93 t94 t95 t96 t97 t98 t99 t100 t101 t102 t103 t104 t105 t106 t107 t108 t109 t110 t111 t112 t113 t114 t115 t116 t117 t118 t119 t120 t121 t122 t123 t124 t125 t126 t127 t128 t129 t130 t131 t132 t133 t134 t135 t136 t137 t138 t139 t140 t141 t142 t143 t144 t145 t146 t147 t148 t149 t150 t151 t152 t153 t154 t155 t156 t157 t158 t159 t160 t161 t162 t163 t164 t165 t166 t167 t168 t169 t170 t171 t172 t173 t174 t175 t176 t177 t178 t179 t180 t181 t182 t183 t184 t185 t186 t187 t188 t189 t190 t191 t192 t193 t194 t195 t196 t197 t198 t199 : Value} (b p0 cs : List UInt8) (A0 A1 A3 : Option Addr) (c0 c1 c3 : Nat) (nn : UInt8) (g : Nat) (W0 w : World) (HST : Hid (StreamAt w g 0 0)) (hg : W0.heap.size ≤ g) (HRB : Hid (RdS vB W0 A0 b)) (HRP0 : Hid (RdS vB W0 A3 p0)) (HRC : Hid (RdS vB W0 A1 cs)) (hc0 : b.length ≤ c0) (hc3 : p0.length ≤ c3) (hc1 : cs.length ≤ c1) (hm0 : c0 ≤ 9223372036854775807) (hm3 : c3 ≤ 9223372036854775807) (hm1 : c1 ≤ 9223372036854775807) (hb : b.length ≤ 80) (HE : Hid (Ext W0 w)) :
    (tailN 5 sumBody).wp Try.prog (QE 8 W0) ⟨(.slice A0 b.length c0 :: .slice A1 cs.length c1 :: .int .u8 (b8 nn) :: .slice A3 p0.length c3 :: t4 :: t5 :: t6 :: t7 :: t8 :: .pointer (some ⟨g, 0, none⟩) :: .int .u32 0 :: .int .u32 0 :: .int .i64 0 :: t13 :: t14 :: t15 :: t16 :: t17 :: t18 :: t19 :: t20 :: t21 :: t22 :: t23 :: t24 :: t25 :: t26 :: t27 :: t28 :: t29 :: t30 :: t31 :: t32 :: t33 :: t34 :: t35 :: t36 :: t37 :: t38 :: t39 :: t40 :: t41 :: t42 :: t43 :: t44 :: t45 :: t46 :: t47 :: t48 :: t49 :: t50 :: t51 :: t52 :: t53 :: t54 :: t55 :: t56 :: t57 :: t58 :: t59 :: t60 :: t61 :: t62 :: t63 :: t64 :: t65 :: t66 :: t67 :: t68 :: t69 :: t70 :: t71 :: t72 :: t73 :: t74 :: t75 :: t76 :: t77 :: t78 :: t79 :: t80 :: t81 :: t82 :: t83 :: t84 :: t85 :: t86 :: t87 :: t88 :: t89 :: t90 :: t91 :: t92 :: t93 :: t94 :: t95 :: t96 :: t97 :: t98 :: t99 :: t100 :: t101 :: t102 :: t103 :: t104 :: t105 :: t106 :: t107 :: t108 :: t109 :: t110 :: t111 :: t112 :: t113 :: t114 :: t115 :: t116 :: t117 :: t118 :: t119 :: t120 :: t121 :: t122 :: t123 :: t124 :: t125 :: t126 :: t127 :: t128 :: t129 :: t130 :: t131 :: t132 :: t133 :: t134 :: t135 :: t136 :: t137 :: t138 :: t139 :: t140 :: t141 :: t142 :: t143 :: t144 :: t145 :: t146 :: t147 :: t148 :: t149 :: t150 :: t151 :: t152 :: t153 :: t154 :: t155 :: t156 :: t157 :: t158 :: t159 :: t160 :: t161 :: t162 :: t163 :: t164 :: t165 :: t166 :: t167 :: t168 :: t169 :: t170 :: t171 :: t172 :: t173 :: t174 :: t175 :: t176 :: t177 :: t178 :: t179 :: t180 :: t181 :: t182 :: t183 :: t184 :: t185 :: t186 :: t187 :: t188 :: t189 :: t190 :: t191 :: t192 :: t193 :: t194 :: t195 :: t196 :: t197 :: t198 :: t199 :: []).toArray, []⟩ w := by
  refine wp_step rfl fun K hK => ?_
  have HK := Lib.hid hK; clear hK
  conv => arg 2; whnf
  go_wp2_with fail
  go_loopw [10, 11, 12, 13] (fun x y z i wr => ∃ (k at_ : Nat) (sv : UInt32), k ≤ 6 ∧ at_ ≤ b.length ∧ Hid (k = 6 → at_ = b.length) ∧ x = .int .u32 (w32 sv) ∧ y = .int .u32 (w32 sv) ∧ z = .int .i64 at_ ∧ i = .int .i64 k ∧ Hid (sv = sumW (b.take at_)) ∧ Hid (StreamAt wr g sv at_) ∧ Hid (Ext W0 wr)) (fun _ _ _ i _ => 6 - (intOf i).toNat)
  case atStart => exact ⟨0, 0, 0, by omega, by omega, Lib.hid (by omega), rfl, rfl, rfl, rfl, Lib.hid (by rw [List.take_zero, sum_nil]), HST, HE⟩
  case round =>
    clear HST HE
    obtain ⟨k, at_, sv, hk, hat, HEND, rfl, rfl, rfl, rfl, HSV, HST, HE⟩ := hrel
    by_cases hk5 : k < 6
    · obtain ⟨m0, hm0e⟩ : ∃ m0, m0 = b.length - at_ := ⟨_, rfl⟩
      have hw9 : IntKind.i64.wrap ((b.length : Int) - (at_ : Int)) = (m0 : Int) := by rw [IntWalk.i64_in _ (by omega)]; omega
      have hI9 : (b.length : Int) - (at_ : Int) = (m0 : Int) := by omega
      have hcase : (k < cs.length ∧ k < 5) ∨ ¬ k < cs.length ∨ (k < cs.length ∧ ¬ k < 5) := by omega
      have hm : ∃ m : Nat, m ≤ m0 ∧ (k = 5 → m = m0) ∧ ((k < cs.length ∧ k < 5) → ∀ h : k < cs.length, (if b8 cs[k] < (m0 : Int) then b8 cs[k] else (m0 : Int)) = (m : Int)) ∧ (¬ (k < cs.length ∧ k < 5) → m = m0) := by
        by_cases hc : k < cs.length ∧ k < 5
        · have hr := u8_r (cs[k]'hc.1)
          refine ⟨if b8 (cs[k]'hc.1) < (m0 : Int) then (b8 (cs[k]'hc.1)).toNat else m0, ?_, by omega, fun _ h => ?_, fun h => absurd hc h⟩
          · split <;> omega
          · split <;> omega
        · exact ⟨m0, Nat.le_refl _, fun _ => rfl, fun h => absurd h hc, fun _ => rfl⟩
      obtain ⟨m, hm1', hm5, hmA, hmB⟩ := hm
      have HM5 := Lib.hid hm5; clear hm5
      have HMA := Lib.hid hmA; clear hmA
      have HMB := Lib.hid hmB; clear hmB
      obtain ⟨at2, hat2⟩ : ∃ at2, at2 = at_ + m := ⟨_, rfl⟩
      have hI12 : (at_ : Int) + (m : Int) = (at2 : Int) := by omega
      have hw12 : IntKind.i64.wrap ((at_ : Int) + (m : Int)) = (at2 : Int) := by rw [IntWalk.i64_in _ (by omega)]; omega
      have ha2 : at2 ≤ b.length := by omega
      have ha3 : at_ ≤ at2 := by omega
      have ha4 : at2 - at_ = m := by omega
      have hac : at2 ≤ c0 := by omega
      obtain ⟨pc, hpc⟩ : ∃ pc, pc = (b.drop at_).take m := ⟨_, rfl⟩
      have hpl : pc.length = m := by rw [hpc]; simp; omega
      obtain ⟨sv2, hsv2⟩ : ∃ sv2, sv2 = sumW (b.take at2) := ⟨_, rfl⟩
      have e1 : moreW sv pc = sv2 := by rw [HSV.out, hpc, sum_take, hsv2, hat2]
      have e2 : joinW sv (sumW pc) (m : Int) = sv2 := by rw [HSV.out, hpc, join_take _ _ _ (by omega), hsv2, hat2]
      obtain ⟨sp, hsp⟩ : ∃ sp, sp = sumW pc := ⟨_, rfl⟩
      have HMORE : Hid (∀ W v, SlV vB W v pc → Calls Try.prog 9 #[.int .u32 (w32 sv), v] W fun e w' => e = .returned (.int .u32 (w32 sv2)) ∧ Ext W w') := Lib.hid (fun W v h => by have := more_c sv v pc W h; rwa [e1] at this)
      have HSUM : Hid (∀ W v, SlV vB W v pc → Calls Try.prog 6 #[v] W fun e w' => e = .returned (.int .u32 (w32 sp)) ∧ Ext W w') := Lib.hid (fun W v h => by have := sum_c v pc W h; rwa [← hsp] at this)
      have HJOIN : Hid (∀ W, Calls Try.prog 10 #[.int .u32 (w32 sv), .int .u32 (w32 sp), .int .i64 m] W fun e w' => e = .returned (.int .u32 (w32 sv2)) ∧ Ext W w') := Lib.hid (fun W => by have := join_c sv (sumW pc) m W (by omega) (by omega); rw [e2, ← hsp] at this; exact this)
      have HWR : Hid (∀ W v, StreamAt W g sv at_ → SlV vB W v pc → Calls Try.prog 11 #[.pointer (some ⟨g, 0, none⟩), v] W fun e w' => e = .returned (.tuple #[]) ∧ StreamAt w' g sv2 at2 ∧ W.grownBy w' (some g)) := Lib.hid (fun W v h1 h2 => by
        have := swrite_c g sv at_ v pc W h1 (by omega) (by omega) h2
        rw [e1, hpl, hI12] at this
        exact this)
      have HS6 : Hid (∀ W, Ext W0 W → Calls Try.prog 8 #[.slice A0 at2 c0] W fun e w' => e = .returned (.int .u32 (w32 sv2)) ∧ W = w') := Lib.hid (fun W h => by
        have := sum6_c (.slice A0 at2 c0) (b.take at2) W ⟨A0, c0, by rw [List.length_take, Nat.min_eq_left ha2], by rw [List.length_take]; omega, by unfold maxLen; omega, (HRB.out.ext h).take at2⟩
        rwa [← hsv2] at this)
      have HPC : Hid (RdS vB W0 (if c0 = at_ then A0 else A0.map (·.add at_)) pc) := Lib.hid (by rw [hpc]; exact (HRB.out.drop hc0).take m)
      have HPL := Lib.hid hpl; clear hpl
      have HSV2 := Lib.hid hsv2; clear hsv2
      have HA2 := Lib.hid hat2; clear hat2
      have hu64 : IntKind.u64.wrap (at2 : Int) = (at2 : Int) := IntWalk.u64_in _ (by omega)
      clear e1 e2 hpc hsp hm0e HSV
      rcases hcase with hA | hB | hC
      · obtain ⟨d1, d2⟩ := hA
        obtain ⟨b1, o1, rfl, hbl, hcell⟩ := HRC.out.at_ d1
        have hcw := HE.out.cl hcell
        unfold vB at hcw
        clear hcell
        have qm := HMA.out ⟨d1, d2⟩ d1
        have h64 : IntKind.i64.wrap (b8 (cs[k]'d1)) = b8 (cs[k]'d1) := u8_i64 _
        go_upto_region 13 with fail
        generalize hA : (@ite (Option Addr) (c0 = at_) _ A0 _) = Ap
        have hp1 := HPC.out
        rw [hA] at hp1
        have HPC1 := Lib.hid hp1
        clear hp1 hA HPC
        have hspc : ∀ W, Ext W0 W → SlV vB W (.slice Ap m (c0 - at_)) pc := fun W h => ⟨_, _, by rw [HPL.out], by rw [HPL.out]; omega, by unfold maxLen; omega, HPC1.out.ext h⟩
        have HSPC := Lib.hid hspc; clear hspc
        have hpb : pc.length ≤ 80 := by rw [HPL.out]; omega
        go_wp2_with (first | (go_at_call 7; (with_reducible refine (copied_c _ pc _ (HSPC.out _ HE.out) (by omega)).mono ?_); rintro e' w2 ⟨v2, rfl, ho2, hE2⟩; have HO2 := Lib.hid ho2.sl; clear ho2; have HE := Lib.hid (HE.out.tr hE2); have HST := Lib.hid (HST.out.ext hE2); clear hE2) | (go_at_call 9; (with_reducible refine (HMORE.out _ _ HO2.out).mono ?_); rintro e' w2 ⟨rfl, hE2⟩; have HE := Lib.hid (HE.out.tr hE2); have HST := Lib.hid (HST.out.ext hE2); clear hE2) | (go_at_call 6; (with_reducible refine (HSUM.out _ _ HO2.out).mono ?_); rintro e' w2 ⟨rfl, hE2⟩; have HE := Lib.hid (HE.out.tr hE2); have HST := Lib.hid (HST.out.ext hE2); clear hE2) | (go_at_call 10; (with_reducible refine (HJOIN.out _).mono ?_); rintro e' w2 ⟨rfl, hE2⟩; have HE := Lib.hid (HE.out.tr hE2); have HST := Lib.hid (HST.out.ext hE2); clear hE2) | (go_at_call 11; (with_reducible refine (HWR.out _ _ HST.out HO2.out).mono ?_); rintro e' w2 ⟨rfl, hst2, hg2⟩; have HST := Lib.hid hst2; have HE := Lib.hid (HE.out.gr hg2 (fun q hq => by injection hq with e; exact e ▸ hg)); clear hst2 hg2) | (go_at_call 8; (with_reducible refine (HS6.out _ HE.out).mono ?_); rintro e' w2 ⟨rfl, rfl⟩) | (go_at_call 12; (with_reducible refine (ssum_c g _ _ _ HST.out).mono ?_); rintro e' w2 ⟨rfl, rfl⟩) | (go_at_call 13; (with_reducible refine (slen_c g _ _ _ HST.out).mono ?_); rintro e' w2 ⟨rfl, rfl⟩))
        exact ⟨⟨k + 1, at2, sv2, by omega, ha2, Lib.hid (fun h => by have := HM5.out (by omega); have := HA2.out; omega), rfl, rfl, rfl, by go_num, HSV2, HST, HE⟩, by simp [intOf]; omega⟩
      · have qm : m = m0 := HMB.out (fun h => hB h.1)
        have d1 : ¬ k < cs.length := hB
        have d3 : decide ((k : Int) < (cs.length : Int)) = false := by simp; omega
        clear hB
        subst qm
        go_upto_region 13 with fail
        generalize hA : (@ite (Option Addr) (c0 = at_) _ A0 _) = Ap
        have hp1 := HPC.out
        rw [hA] at hp1
        have HPC1 := Lib.hid hp1
        clear hp1 hA HPC
        have hspc : ∀ W, Ext W0 W → SlV vB W (.slice Ap m (c0 - at_)) pc := fun W h => ⟨_, _, by rw [HPL.out], by rw [HPL.out]; omega, by unfold maxLen; omega, HPC1.out.ext h⟩
        have HSPC := Lib.hid hspc; clear hspc
        have hpb : pc.length ≤ 80 := by rw [HPL.out]; omega
        go_wp2_with (first | (go_at_call 7; (with_reducible refine (copied_c _ pc _ (HSPC.out _ HE.out) (by omega)).mono ?_); rintro e' w2 ⟨v2, rfl, ho2, hE2⟩; have HO2 := Lib.hid ho2.sl; clear ho2; have HE := Lib.hid (HE.out.tr hE2); have HST := Lib.hid (HST.out.ext hE2); clear hE2) | (go_at_call 9; (with_reducible refine (HMORE.out _ _ HO2.out).mono ?_); rintro e' w2 ⟨rfl, hE2⟩; have HE := Lib.hid (HE.out.tr hE2); have HST := Lib.hid (HST.out.ext hE2); clear hE2) | (go_at_call 6; (with_reducible refine (HSUM.out _ _ HO2.out).mono ?_); rintro e' w2 ⟨rfl, hE2⟩; have HE := Lib.hid (HE.out.tr hE2); have HST := Lib.hid (HST.out.ext hE2); clear hE2) | (go_at_call 10; (with_reducible refine (HJOIN.out _).mono ?_); rintro e' w2 ⟨rfl, hE2⟩; have HE := Lib.hid (HE.out.tr hE2); have HST := Lib.hid (HST.out.ext hE2); clear hE2) | (go_at_call 11; (with_reducible refine (HWR.out _ _ HST.out HO2.out).mono ?_); rintro e' w2 ⟨rfl, hst2, hg2⟩; have HST := Lib.hid hst2; have HE := Lib.hid (HE.out.gr hg2 (fun q hq => by injection hq with e; exact e ▸ hg)); clear hst2 hg2) | (go_at_call 8; (with_reducible refine (HS6.out _ HE.out).mono ?_); rintro e' w2 ⟨rfl, rfl⟩) | (go_at_call 12; (with_reducible refine (ssum_c g _ _ _ HST.out).mono ?_); rintro e' w2 ⟨rfl, rfl⟩) | (go_at_call 13; (with_reducible refine (slen_c g _ _ _ HST.out).mono ?_); rintro e' w2 ⟨rfl, rfl⟩))
        exact ⟨⟨k + 1, at2, sv2, by omega, ha2, Lib.hid (fun h => by have := HM5.out (by omega); have := HA2.out; omega), rfl, rfl, rfl, by go_num, HSV2, HST, HE⟩, by simp [intOf]; omega⟩
      · have qm : m = m0 := HMB.out (fun h => hC.2 h.2)
        have d1 : k < cs.length := hC.1
        have d2 : ¬ k < 5 := hC.2
        have d3 : decide ((k : Int) < 5) = false := by simp; omega
        clear hC
        subst qm
        go_upto_region 13 with fail
        generalize hA : (@ite (Option Addr) (c0 = at_) _ A0 _) = Ap
        have hp1 := HPC.out
        rw [hA] at hp1
        have HPC1 := Lib.hid hp1
        clear hp1 hA HPC
        have hspc : ∀ W, Ext W0 W → SlV vB W (.slice Ap m (c0 - at_)) pc := fun W h => ⟨_, _, by rw [HPL.out], by rw [HPL.out]; omega, by unfold maxLen; omega, HPC1.out.ext h⟩
        have HSPC := Lib.hid hspc; clear hspc
        have hpb : pc.length ≤ 80 := by rw [HPL.out]; omega
        go_wp2_with (first | (go_at_call 7; (with_reducible refine (copied_c _ pc _ (HSPC.out _ HE.out) (by omega)).mono ?_); rintro e' w2 ⟨v2, rfl, ho2, hE2⟩; have HO2 := Lib.hid ho2.sl; clear ho2; have HE := Lib.hid (HE.out.tr hE2); have HST := Lib.hid (HST.out.ext hE2); clear hE2) | (go_at_call 9; (with_reducible refine (HMORE.out _ _ HO2.out).mono ?_); rintro e' w2 ⟨rfl, hE2⟩; have HE := Lib.hid (HE.out.tr hE2); have HST := Lib.hid (HST.out.ext hE2); clear hE2) | (go_at_call 6; (with_reducible refine (HSUM.out _ _ HO2.out).mono ?_); rintro e' w2 ⟨rfl, hE2⟩; have HE := Lib.hid (HE.out.tr hE2); have HST := Lib.hid (HST.out.ext hE2); clear hE2) | (go_at_call 10; (with_reducible refine (HJOIN.out _).mono ?_); rintro e' w2 ⟨rfl, hE2⟩; have HE := Lib.hid (HE.out.tr hE2); have HST := Lib.hid (HST.out.ext hE2); clear hE2) | (go_at_call 11; (with_reducible refine (HWR.out _ _ HST.out HO2.out).mono ?_); rintro e' w2 ⟨rfl, hst2, hg2⟩; have HST := Lib.hid hst2; have HE := Lib.hid (HE.out.gr hg2 (fun q hq => by injection hq with e; exact e ▸ hg)); clear hst2 hg2) | (go_at_call 8; (with_reducible refine (HS6.out _ HE.out).mono ?_); rintro e' w2 ⟨rfl, rfl⟩) | (go_at_call 12; (with_reducible refine (ssum_c g _ _ _ HST.out).mono ?_); rintro e' w2 ⟨rfl, rfl⟩) | (go_at_call 13; (with_reducible refine (slen_c g _ _ _ HST.out).mono ?_); rintro e' w2 ⟨rfl, rfl⟩))
        exact ⟨⟨k + 1, at2, sv2, by omega, ha2, Lib.hid (fun h => by have := HM5.out (by omega); have := HA2.out; omega), rfl, rfl, rfl, by go_num, HSV2, HST, HE⟩, by simp [intOf]; omega⟩
    · obtain rfl : k = 6 := by omega
      have hend := HEND.out rfl
      subst hend
      go_wp2_with fail
      exact HK.out _ _ (ts6 b p0 A0 A3 c0 c3 g sv _ nn W0 _ HST hg HRB HRP0 hc0 hc3 hm0 hm3 hb HE)
end Go.Proofs.Ytmcgcfbdofpfdaa
