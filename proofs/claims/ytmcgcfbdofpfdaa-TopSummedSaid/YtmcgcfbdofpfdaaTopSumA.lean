/- The walk of TopSummed's last statements. -/
import Derived.Test.YtmcgcfbdofpfdaaTopQ
import Derived.Test.YtmcgcfbdofpfdaaAliveA
import Derived.Test.YtmcgcfbdofpfdaaCodeE
import Derived.Test.YtmcgcfbdofpfdaaAppMake
import Derived.Test.YtmcgcfbdofpfdaaSumM
namespace Go.Proofs.Ytmcgcfbdofpfdaa
open Go.RowKit
noncomputable def sumBody : Code := Try.f3.body.getD .skip
theorem StreamAt.gb {w w' : World} {g : Nat} {s : UInt32} {n : Int} {row : Option Nat} (h : StreamAt w g s n) (hg : w.grownBy w' row) (hne : row ≠ some g) : StreamAt w' g s n := (hg.block g (blk_lt h) (fun e => hne e.symm)).trans h
theorem spoil_all (b p : List UInt8) (h : p.length ≤ b.length) : mixTo (spoilL b p) b p.length = spoilL b p := by
  apply List.ext_getElem
  · rw [mixTo_length _ (spoilL_len b p h), spoilL_len b p h]
  · intro i h1 h2
    have hi : i < b.length := by rwa [spoilL_len b p h] at h2
    have hs := spoilL_len b p h
    simp only [mixTo]
    by_cases hip : i < p.length
    · rw [List.getElem_append_left (by simp; omega)]
      simp
    · rw [List.getElem_append_right (by simp; omega)]
      have e : (padZ p b.length)[i]'(by rw [padZ_len p _ h]; exact hi) = 0 := by
        simp only [padZ]
        rw [List.getElem_append_right (by omega)]
        simp
      have this : p.length + (i - min p.length (spoilL b p).length) = i := by omega
      have e3 : (spoilL b p)[i]'h2 = b[i] ^^^ (padZ p b.length)[i]'(by rw [padZ_len p _ h]; exact hi) := by simp only [spoilL, List.getElem_zipWith]
      rw [e3, e]
      simp only [List.length_take, List.getElem_drop, this]
      simp
set_option maxRecDepth 1000000 in
set_option maxHeartbeats 1000000 in
theorem ts14 {t0 t1 t2 t3 t4 t5 t6 t7 t8 t10 t11 t12 t13 t14 t15 t16 t17 t18 t19 t20 t21 t22 t23 t24 t25 t26 t27 t28 t29 t30 t31 t32 t33 t34 t35 t36 t37 t38 t39 t40 t41 t42 t43 t44 t45 t46 t47 t48 t49 t50 t51 t52 t53 t54 t55 t56 t57 t58 t59 t60 t61 t62 t63 t64 t65 t66 t67 t68 t69 t70 t71 t72 t73 t74 t75 t76 t77 t78 t79 t80 t81 t82 t83 t84 t85 t86 t87 t88 t89 t90 t91 t92 t93 t94 t95 t96 t97 t98 t99 t100 t101 t102 t103 t104 t105 t106 t107 t108 t109 t110 t111 t112 t113 t114 t115 t116 t117 t118 t119 t120 t121 t122 t123 t124 t125 t126 t127 t128 t129 t130 t131 t132 t133 t134 t135 t136 t137 t138 t139 t140 t141 t142 t143 t144 t145 t146 t147 t148 t149 t150 t151 t152 t153 t154 t155 t156 t157 t158 t159 t160 t161 t162 t163 t164 t165 t166 t167 t168 t169 t170 t171 t172 t173 t174 t175 t176 t177 t178 t179 t180 t181 t182 t183 t184 t185 t186 t187 t188 t189 t190 t191 t192 t193 t194 t195 t196 t197 t198 t199 : Value} (g : Nat) (W0 w : World) (HST : Hid (StreamAt w g 0 0)) (HE : Hid (Ext W0 w)) :
    (tailN 14 sumBody).wp Try.prog (QE 8 W0) ⟨(t0 :: t1 :: t2 :: t3 :: t4 :: t5 :: t6 :: t7 :: t8 :: .pointer (some ⟨g, 0, none⟩) :: t10 :: t11 :: t12 :: t13 :: t14 :: t15 :: t16 :: t17 :: t18 :: t19 :: t20 :: t21 :: t22 :: t23 :: t24 :: t25 :: t26 :: t27 :: t28 :: t29 :: t30 :: t31 :: t32 :: t33 :: t34 :: t35 :: t36 :: t37 :: t38 :: t39 :: t40 :: t41 :: t42 :: t43 :: t44 :: t45 :: t46 :: t47 :: t48 :: t49 :: t50 :: t51 :: t52 :: t53 :: t54 :: t55 :: t56 :: t57 :: t58 :: t59 :: t60 :: t61 :: t62 :: t63 :: t64 :: t65 :: t66 :: t67 :: t68 :: t69 :: t70 :: t71 :: t72 :: t73 :: t74 :: t75 :: t76 :: t77 :: t78 :: t79 :: t80 :: t81 :: t82 :: t83 :: t84 :: t85 :: t86 :: t87 :: t88 :: t89 :: t90 :: t91 :: t92 :: t93 :: t94 :: t95 :: t96 :: t97 :: t98 :: t99 :: t100 :: t101 :: t102 :: t103 :: t104 :: t105 :: t106 :: t107 :: t108 :: t109 :: t110 :: t111 :: t112 :: t113 :: t114 :: t115 :: t116 :: t117 :: t118 :: t119 :: t120 :: t121 :: t122 :: t123 :: t124 :: t125 :: t126 :: t127 :: t128 :: t129 :: t130 :: t131 :: t132 :: t133 :: t134 :: t135 :: t136 :: t137 :: t138 :: t139 :: t140 :: t141 :: t142 :: t143 :: t144 :: t145 :: t146 :: t147 :: t148 :: t149 :: t150 :: t151 :: t152 :: t153 :: t154 :: t155 :: t156 :: t157 :: t158 :: t159 :: t160 :: t161 :: t162 :: t163 :: t164 :: t165 :: t166 :: t167 :: t168 :: t169 :: t170 :: t171 :: t172 :: t173 :: t174 :: t175 :: t176 :: t177 :: t178 :: t179 :: t180 :: t181 :: t182 :: t183 :: t184 :: t185 :: t186 :: t187 :: t188 :: t189 :: t190 :: t191 :: t192 :: t193 :: t194 :: t195 :: t196 :: t197 :: t198 :: t199 :: []).toArray, []⟩ w := by
  conv => arg 2; whnf
  have e1 : (w32 0 == 0) = true := by decide
  go_wp2_with (first | (go_at_call 12; (with_reducible refine (ssum_c g 0 0 _ HST.out).mono ?_); rintro e' w2 ⟨rfl, rfl⟩) | (go_at_call 13; (with_reducible refine (slen_c g 0 0 _ HST.out).mono ?_); rintro e' w2 ⟨rfl, rfl⟩) | (go_at_call 17; (with_reducible refine (alive_c _).mono ?_); rintro e' w2 ⟨rfl, hE2⟩))
  exact ⟨rfl, rfl, HE.out.tr hE2⟩
set_option maxRecDepth 1000000 in
set_option maxHeartbeats 1000000 in
theorem ts13 {t0 t1 t2 t3 t4 t5 t6 t7 t8 t10 t11 t12 t13 t14 t15 t16 t17 t18 t19 t20 t21 t22 t23 t24 t25 t26 t27 t28 t29 t30 t31 t32 t33 t34 t35 t36 t37 t38 t39 t40 t41 t42 t43 t44 t45 t46 t47 t48 t49 t50 t51 t52 t53 t54 t55 t56 t57 t58 t59 t60 t61 t62 t63 t64 t65 t66 t67 t68 t69 t70 t71 t72 t73 t74 t75 t76 t77 t78 t79 t80 t81 t82 t83 t84 t85 t86 t87 t88 t89 t90 t91 t92 t93 t94 t95 t96 t97 t98 t99 t100 t101 t102 t103 t104 t105 t106 t107 t108 t109 t110 t111 t112 t113 t114 t115 t116 t117 t118 t119 t120 t121 t122 t123 t124 t125 t126 t127 t128 t129 t130 t131 t132 t133 t134 t135 t136 t137 t138 t139 t140 t141 t142 t143 t144 t145 t146 t147 t148 t149 t150 t151 t152 t153 t154 t155 t156 t157 t158 t159 t160 t161 t162 t163 t164 t165 t166 t167 t168 t169 t170 t171 t172 t173 t174 t175 t176 t177 t178 t179 t180 t181 t182 t183 t184 t185 t186 t187 t188 t189 t190 t191 t192 t193 t194 t195 t196 t197 t198 t199 : Value} (g : Nat) (s : UInt32) (n : Int) (W0 w : World) (HST : Hid (StreamAt w g s n)) (hg : W0.heap.size ≤ g) (HE : Hid (Ext W0 w)) :
    (tailN 13 sumBody).wp Try.prog (QE 8 W0) ⟨(t0 :: t1 :: t2 :: t3 :: t4 :: t5 :: t6 :: t7 :: t8 :: .pointer (some ⟨g, 0, none⟩) :: t10 :: t11 :: t12 :: t13 :: t14 :: t15 :: t16 :: t17 :: t18 :: t19 :: t20 :: t21 :: t22 :: t23 :: t24 :: t25 :: t26 :: t27 :: t28 :: t29 :: t30 :: t31 :: t32 :: t33 :: t34 :: t35 :: t36 :: t37 :: t38 :: t39 :: t40 :: t41 :: t42 :: t43 :: t44 :: t45 :: t46 :: t47 :: t48 :: t49 :: t50 :: t51 :: t52 :: t53 :: t54 :: t55 :: t56 :: t57 :: t58 :: t59 :: t60 :: t61 :: t62 :: t63 :: t64 :: t65 :: t66 :: t67 :: t68 :: t69 :: t70 :: t71 :: t72 :: t73 :: t74 :: t75 :: t76 :: t77 :: t78 :: t79 :: t80 :: t81 :: t82 :: t83 :: t84 :: t85 :: t86 :: t87 :: t88 :: t89 :: t90 :: t91 :: t92 :: t93 :: t94 :: t95 :: t96 :: t97 :: t98 :: t99 :: t100 :: t101 :: t102 :: t103 :: t104 :: t105 :: t106 :: t107 :: t108 :: t109 :: t110 :: t111 :: t112 :: t113 :: t114 :: t115 :: t116 :: t117 :: t118 :: t119 :: t120 :: t121 :: t122 :: t123 :: t124 :: t125 :: t126 :: t127 :: t128 :: t129 :: t130 :: t131 :: t132 :: t133 :: t134 :: t135 :: t136 :: t137 :: t138 :: t139 :: t140 :: t141 :: t142 :: t143 :: t144 :: t145 :: t146 :: t147 :: t148 :: t149 :: t150 :: t151 :: t152 :: t153 :: t154 :: t155 :: t156 :: t157 :: t158 :: t159 :: t160 :: t161 :: t162 :: t163 :: t164 :: t165 :: t166 :: t167 :: t168 :: t169 :: t170 :: t171 :: t172 :: t173 :: t174 :: t175 :: t176 :: t177 :: t178 :: t179 :: t180 :: t181 :: t182 :: t183 :: t184 :: t185 :: t186 :: t187 :: t188 :: t189 :: t190 :: t191 :: t192 :: t193 :: t194 :: t195 :: t196 :: t197 :: t198 :: t199 :: []).toArray, []⟩ w := by
  refine wp_step rfl fun K hK => ?_
  have HK := Lib.hid hK; clear hK
  conv => arg 2; whnf
  go_wp2_with (first | (go_at_call 16; (with_reducible refine (sreset_c g s n _ HST.out).mono ?_); rintro e' w2 ⟨rfl, hst2, hg2⟩; have HST2 := Lib.hid hst2; have HE2 := Lib.hid (HE.out.gr hg2 (fun k hk => by injection hk with e; exact e ▸ hg)); clear hst2 hg2))
  exact HK.out _ _ (ts14 g W0 _ HST2 HE2)
set_option maxRecDepth 1000000 in
set_option maxHeartbeats 1000000 in
theorem ts12 {t1 t2 t4 t5 t6 t7 t8 t10 t11 t12 t13 t14 t15 t16 t18 t19 t21 t22 t23 t24 t25 t26 t27 t28 t29 t30 t31 t32 t33 t34 t35 t36 t37 t38 t39 t40 t41 t42 t43 t44 t45 t46 t47 t48 t49 t50 t51 t52 t53 t54 t55 t56 t57 t58 t59 t60 t61 t62 t63 t64 t65 t66 t67 t68 t69 t70 t71 t72 t73 t74 t75 t76 t77 t78 t79 t80 t81 t82 t83 t84 t85 t86 t87 t88 t89 t90 t91 t92 t93 t94 t95 t96 t97 t98 t99 t100 t101 t102 t103 t104 t105 t106 t107 t108 t109 t110 t111 t112 t113 t114 t115 t116 t117 t118 t119 t120 t121 t122 t123 t124 t125 t126 t127 t128 t129 t130 t131 t132 t133 t134 t135 t136 t137 t138 t139 t140 t141 t142 t143 t144 t145 t146 t147 t148 t149 t150 t151 t152 t153 t154 t155 t156 t157 t158 t159 t160 t161 t162 t163 t164 t165 t166 t167 t168 t169 t170 t171 t172 t173 t174 t175 t176 t177 t178 t179 t180 t181 t182 t183 t184 t185 t186 t187 t188 t189 t190 t191 t192 t193 t194 t195 t196 t197 t198 t199 : Value} (b p : List UInt8) (A0 A3 : Option Addr) (c0 c3 : Nat) (g : Nat) (s : UInt32) (n : Int) (v17 : Value) (W0 w : World) (HST : Hid (StreamAt w g s n)) (hg : W0.heap.size ≤ g) (HRB : Hid (RdS vB W0 A0 b)) (HRP : Hid (RdS vB W0 A3 p)) (hc0 : b.length ≤ c0) (hc3 : p.length ≤ c3) (hm0 : c0 ≤ 9223372036854775807) (hm3 : c3 ≤ 9223372036854775807) (hb : b.length ≤ 80) (hp : p.length ≤ b.length) (HS17 : Hid (SlV vB w v17 (spoilL b p))) (HE : Hid (Ext W0 w)) :
    (tailN 12 sumBody).wp Try.prog (QE 8 W0) ⟨(.slice A0 b.length c0 :: t1 :: t2 :: .slice A3 p.length c3 :: t4 :: t5 :: t6 :: t7 :: t8 :: .pointer (some ⟨g, 0, none⟩) :: t10 :: t11 :: t12 :: t13 :: t14 :: t15 :: t16 :: v17 :: t18 :: t19 :: .bool (decide (overW 0 (padZ p b.length) = 0)) :: t21 :: t22 :: t23 :: t24 :: t25 :: t26 :: t27 :: t28 :: t29 :: t30 :: t31 :: t32 :: t33 :: t34 :: t35 :: t36 :: t37 :: t38 :: t39 :: t40 :: t41 :: t42 :: t43 :: t44 :: t45 :: t46 :: t47 :: t48 :: t49 :: t50 :: t51 :: t52 :: t53 :: t54 :: t55 :: t56 :: t57 :: t58 :: t59 :: t60 :: t61 :: t62 :: t63 :: t64 :: t65 :: t66 :: t67 :: t68 :: t69 :: t70 :: t71 :: t72 :: t73 :: t74 :: t75 :: t76 :: t77 :: t78 :: t79 :: t80 :: t81 :: t82 :: t83 :: t84 :: t85 :: t86 :: t87 :: t88 :: t89 :: t90 :: t91 :: t92 :: t93 :: t94 :: t95 :: t96 :: t97 :: t98 :: t99 :: t100 :: t101 :: t102 :: t103 :: t104 :: t105 :: t106 :: t107 :: t108 :: t109 :: t110 :: t111 :: t112 :: t113 :: t114 :: t115 :: t116 :: t117 :: t118 :: t119 :: t120 :: t121 :: t122 :: t123 :: t124 :: t125 :: t126 :: t127 :: t128 :: t129 :: t130 :: t131 :: t132 :: t133 :: t134 :: t135 :: t136 :: t137 :: t138 :: t139 :: t140 :: t141 :: t142 :: t143 :: t144 :: t145 :: t146 :: t147 :: t148 :: t149 :: t150 :: t151 :: t152 :: t153 :: t154 :: t155 :: t156 :: t157 :: t158 :: t159 :: t160 :: t161 :: t162 :: t163 :: t164 :: t165 :: t166 :: t167 :: t168 :: t169 :: t170 :: t171 :: t172 :: t173 :: t174 :: t175 :: t176 :: t177 :: t178 :: t179 :: t180 :: t181 :: t182 :: t183 :: t184 :: t185 :: t186 :: t187 :: t188 :: t189 :: t190 :: t191 :: t192 :: t193 :: t194 :: t195 :: t196 :: t197 :: t198 :: t199 :: []).toArray, []⟩ w := by
  refine wp_step rfl fun K hK => ?_
  have HK := Lib.hid hK; clear hK
  conv => arg 2; whnf
  have HX := Lib.hid (Ext.refl w)
  have hsb : ∀ W, Ext W0 W → SlV vB W (.slice A0 b.length c0) b := fun W h => ⟨_, _, rfl, hc0, by unfold maxLen; omega, HRB.out.ext h⟩
  have hsp : ∀ W, Ext W0 W → SlV vB W (.slice A3 p.length c3) p := fun W h => ⟨_, _, rfl, hc3, by unfold maxLen; omega, HRP.out.ext h⟩
  have HSB := Lib.hid hsb; clear hsb
  have HSP := Lib.hid hsp; clear hsp
  have hqz : IntKind.i64.wrap ((b.length : Int) - (p.length : Int)) = (b.length : Int) - (p.length : Int) := IntWalk.i64_in _ (by omega)
  have hss := spoil_seen b p hp
  have HB5 : Hid (∀ W, Ext W0 W → Calls Try.prog 15 #[.slice (some ⟨W.heap.size, 0, none⟩) 5 5] (W.alloc (.cells #[.int .u8 241, .int .u8 118, .int .u8 236, .int .u8 5, .int .u8 1] 5)) fun e w' => e = .returned (.bool true) ∧ Ext (W.alloc (.cells #[.int .u8 241, .int .u8 118, .int .u8 236, .int .u8 5, .int .u8 1] 5)) w') := Lib.hid (fun W _ => by
    have h := blind_c (.slice (some ⟨W.heap.size, 0, none⟩) 5 5) [241, 118, 236, 5, 1] (W.alloc (.cells #[.int .u8 241, .int .u8 118, .int .u8 236, .int .u8 5, .int .u8 1] 5)) ⟨_, _, rfl, Nat.le_refl _, by unfold maxLen; omega, RdS.blk (heap_alloc_new W _) 0 _ (fun k hk => by
      match k, hk with
      | 0, _ => rfl
      | 1, _ => rfl
      | 2, _ => rfl
      | 3, _ => rfl
      | 4, _ => rfl)⟩
    simpa [blind5] using h)
  go_wp2_with (first | (go_at_call 7; (with_reducible refine (copied_c _ p _ (HSP.out _ HE.out) (by omega)).mono ?_); rintro e' w2 ⟨v2, rfl, ho2, hE2⟩; have HO2 := Lib.hid ho2; have HB2 := Lib.hid (HE.out.size); have HBX := Lib.hid (HX.out.size); clear ho2; have HE := Lib.hid (HE.out.tr hE2); have HX := Lib.hid (HX.out.tr hE2); have HST := Lib.hid (HST.out.ext hE2); clear hE2) | ((with_reducible show wpList _ _ _ ({ dst := some 172, op := .call { callee := .builtin .append, args := #[.tmp 166, .tmp 171], argTypes := #[22, 3] }, type := _, pos := _, after := _, guard := _ } :: _) _ _); refine wpList_append_make_S (enc := vB) 0 rfl rfl rfl (.tmp 166) (.tmp 171) 22 3 5 .i64 1 W0.heap.size rfl Try.underlying22 Try.underlying3 info8v rfl (HO2.out.lower HB2.out) (b.length - p.length) (k := .i64) (by show Value.int .i64 _ = Value.int .i64 _; congr 1; omega) (by unfold maxLen; omega) (by omega) HE.out.size ?_; intro v3 w3 ho3 hg3; have HST := Lib.hid (HST.out.gb hg3 (own_ne HO2.out HST.out (by decide))); have HE := Lib.hid (HE.out.gr hg3 (fun q hq => Nat.le_trans HB2.out (HO2.out.ge q hq))); have HX := Lib.hid (HX.out.gr hg3 (fun q hq => Nat.le_trans HBX.out (HO2.out.ge q hq))); have HSL := Lib.hid (show SlV vB w3 v3 (padZ p b.length) from ho3.sl); clear ho3 hg3) | (go_at_call 15; (with_reducible refine (HB5.out _ HE.out).mono ?_); rintro e' w2 ⟨rfl, hE2⟩; have HE := Lib.hid ((HE.out.al _).tr hE2); have HST := Lib.hid ((HST.out.ext ((Ext.refl _).al _)).ext hE2); clear hE2) | (go_at_call 15; (with_reducible refine (blind_c _ _ _ HSL.out).mono ?_); rintro e' w2 ⟨rfl, hE2⟩; have HE := Lib.hid (HE.out.tr hE2); have HX := Lib.hid (HX.out.tr hE2); have HST := Lib.hid (HST.out.ext hE2); clear hE2) | (go_at_call 6; (with_reducible refine (sum_c _ _ _ (HS17.out.ext HX.out)).mono ?_); rintro e' w2 ⟨rfl, hE2⟩; have HE := Lib.hid (HE.out.tr hE2); have HX := Lib.hid (HX.out.tr hE2); have HST := Lib.hid (HST.out.ext hE2); clear hE2) | (go_at_call 8; (with_reducible refine (sum6_c _ b _ (HSB.out _ HE.out)).mono ?_); rintro e' w2 ⟨rfl, rfl⟩))
  exact HK.out _ _ (ts13 g s n W0 _ HST hg HE)
set_option maxRecDepth 1000000 in
set_option maxHeartbeats 1000000 in
theorem ts11 {t1 t2 t4 t5 t6 t7 t8 t10 t11 t12 t13 t14 t15 t16 t18 t19 t20 t21 t22 t23 t24 t25 t26 t27 t28 t29 t30 t31 t32 t33 t34 t35 t36 t37 t38 t39 t40 t41 t42 t43 t44 t45 t46 t47 t48 t49 t50 t51 t52 t53 t54 t55 t56 t57 t58 t59 t60 t61 t62 t63 t64 t65 t66 t67 t68 t69 t70 t71 t72 t73 t74 t75 t76 t77 t78 t79 t80 t81 t82 t83 t84 t85 t86 t87 t88 t89 t90 t91 t92 t93 t94 t95 t96 t97 t98 t99 t100 t101 t102 t103 t104 t105 t106 t107 t108 t109 t110 t111 t112 t113 t114 t115 t116 t117 t118 t119 t120 t121 t122 t123 t124 t125 t126 t127 t128 t129 t130 t131 t132 t133 t134 t135 t136 t137 t138 t139 t140 t141 t142 t143 t144 t145 t146 t147 t148 t149 t150 t151 t152 t153 t154 t155 t156 t157 t158 t159 t160 t161 t162 t163 t164 t165 t166 t167 t168 t169 t170 t171 t172 t173 t174 t175 t176 t177 t178 t179 t180 t181 t182 t183 t184 t185 t186 t187 t188 t189 t190 t191 t192 t193 t194 t195 t196 t197 t198 t199 : Value} (b p : List UInt8) (A0 A3 : Option Addr) (c0 c3 : Nat) (g : Nat) (s : UInt32) (n : Int) (v17 : Value) (W0 w : World) (HST : Hid (StreamAt w g s n)) (hg : W0.heap.size ≤ g) (HRB : Hid (RdS vB W0 A0 b)) (HRP : Hid (RdS vB W0 A3 p)) (hc0 : b.length ≤ c0) (hc3 : p.length ≤ c3) (hm0 : c0 ≤ 9223372036854775807) (hm3 : c3 ≤ 9223372036854775807) (hb : b.length ≤ 80) (hp : p.length ≤ b.length) (HS17 : Hid (SlV vB w v17 (spoilL b p))) (HE : Hid (Ext W0 w)) :
    (tailN 11 sumBody).wp Try.prog (QE 8 W0) ⟨(.slice A0 b.length c0 :: t1 :: t2 :: .slice A3 p.length c3 :: t4 :: t5 :: t6 :: t7 :: t8 :: .pointer (some ⟨g, 0, none⟩) :: t10 :: t11 :: t12 :: t13 :: t14 :: t15 :: t16 :: v17 :: t18 :: t19 :: t20 :: t21 :: t22 :: t23 :: t24 :: t25 :: t26 :: t27 :: t28 :: t29 :: t30 :: t31 :: t32 :: t33 :: t34 :: t35 :: t36 :: t37 :: t38 :: t39 :: t40 :: t41 :: t42 :: t43 :: t44 :: t45 :: t46 :: t47 :: t48 :: t49 :: t50 :: t51 :: t52 :: t53 :: t54 :: t55 :: t56 :: t57 :: t58 :: t59 :: t60 :: t61 :: t62 :: t63 :: t64 :: t65 :: t66 :: t67 :: t68 :: t69 :: t70 :: t71 :: t72 :: t73 :: t74 :: t75 :: t76 :: t77 :: t78 :: t79 :: t80 :: t81 :: t82 :: t83 :: t84 :: t85 :: t86 :: t87 :: t88 :: t89 :: t90 :: t91 :: t92 :: t93 :: t94 :: t95 :: t96 :: t97 :: t98 :: t99 :: t100 :: t101 :: t102 :: t103 :: t104 :: t105 :: t106 :: t107 :: t108 :: t109 :: t110 :: t111 :: t112 :: t113 :: t114 :: t115 :: t116 :: t117 :: t118 :: t119 :: t120 :: t121 :: t122 :: t123 :: t124 :: t125 :: t126 :: t127 :: t128 :: t129 :: t130 :: t131 :: t132 :: t133 :: t134 :: t135 :: t136 :: t137 :: t138 :: t139 :: t140 :: t141 :: t142 :: t143 :: t144 :: t145 :: t146 :: t147 :: t148 :: t149 :: t150 :: t151 :: t152 :: t153 :: t154 :: t155 :: t156 :: t157 :: t158 :: t159 :: t160 :: t161 :: t162 :: t163 :: t164 :: t165 :: t166 :: t167 :: t168 :: t169 :: t170 :: t171 :: t172 :: t173 :: t174 :: t175 :: t176 :: t177 :: t178 :: t179 :: t180 :: t181 :: t182 :: t183 :: t184 :: t185 :: t186 :: t187 :: t188 :: t189 :: t190 :: t191 :: t192 :: t193 :: t194 :: t195 :: t196 :: t197 :: t198 :: t199 :: []).toArray, []⟩ w := by
  refine wp_step rfl fun K hK => ?_
  have HK := Lib.hid hK; clear hK
  conv => arg 2; whnf
  have HX := Lib.hid (Ext.refl w)
  have hsb : ∀ W, Ext W0 W → SlV vB W (.slice A0 b.length c0) b := fun W h => ⟨_, _, rfl, hc0, by unfold maxLen; omega, HRB.out.ext h⟩
  have hsp : ∀ W, Ext W0 W → SlV vB W (.slice A3 p.length c3) p := fun W h => ⟨_, _, rfl, hc3, by unfold maxLen; omega, HRP.out.ext h⟩
  have HSB := Lib.hid hsb; clear hsb
  have HSP := Lib.hid hsp; clear hsp
  have hqz : IntKind.i64.wrap ((b.length : Int) - (p.length : Int)) = (b.length : Int) - (p.length : Int) := IntWalk.i64_in _ (by omega)
  have HO6 : Hid (∀ W v, SlV vB W v (padZ p b.length) → Calls Try.prog 14 #[.int .u32 0, v] W fun e w' => e = .returned (.int .u32 (w32 (overW 0 (padZ p b.length)))) ∧ W = w') := Lib.hid (fun W v h => over6_c 0 v _ W h)
  have hz0 := w_eq0 (overW 0 (padZ p b.length))
  go_wp2_with (first | (go_at_call 7; (with_reducible refine (copied_c _ p _ (HSP.out _ HE.out) (by omega)).mono ?_); rintro e' w2 ⟨v2, rfl, ho2, hE2⟩; have HO2 := Lib.hid ho2; have HB2 := Lib.hid (HE.out.size); have HBX := Lib.hid (HX.out.size); clear ho2; have HE := Lib.hid (HE.out.tr hE2); have HX := Lib.hid (HX.out.tr hE2); have HST := Lib.hid (HST.out.ext hE2); clear hE2) | ((with_reducible show wpList _ _ _ ({ dst := some 162, op := .call { callee := .builtin .append, args := #[.tmp 156, .tmp 161], argTypes := #[22, 3] }, type := _, pos := _, after := _, guard := _ } :: _) _ _); refine wpList_append_make_S (enc := vB) 0 rfl rfl rfl (.tmp 156) (.tmp 161) 22 3 5 .i64 1 W0.heap.size rfl Try.underlying22 Try.underlying3 info8v rfl (HO2.out.lower HB2.out) (b.length - p.length) (k := .i64) (by show Value.int .i64 _ = Value.int .i64 _; congr 1; omega) (by unfold maxLen; omega) (by omega) HE.out.size ?_; intro v3 w3 ho3 hg3; have HST := Lib.hid (HST.out.gb hg3 (own_ne HO2.out HST.out (by decide))); have HE := Lib.hid (HE.out.gr hg3 (fun q hq => Nat.le_trans HB2.out (HO2.out.ge q hq))); have HX := Lib.hid (HX.out.gr hg3 (fun q hq => Nat.le_trans HBX.out (HO2.out.ge q hq))); have HSL := Lib.hid (show SlV vB w3 v3 (padZ p b.length) from ho3.sl); clear ho3 hg3) | (go_at_call 14; (with_reducible refine (HO6.out _ _ HSL.out).mono ?_); rintro e' w2 ⟨rfl, rfl⟩))
  exact HK.out _ _ (ts12 b p A0 A3 c0 c3 g s n v17 W0 _ HST hg HRB HRP hc0 hc3 hm0 hm3 hb hp (Lib.hid (HS17.out.ext HX.out)) HE)
set_option maxRecDepth 1000000 in
set_option maxHeartbeats 1000000 in
theorem ts10 {t1 t2 t4 t5 t6 t7 t8 t10 t11 t12 t13 t14 t15 t16 t18 t19 t20 t21 t22 t23 t24 t25 t26 t27 t28 t29 t30 t31 t32 t33 t34 t35 t36 t37 t38 t39 t40 t41 t42 t43 t44 t45 t46 t47 t48 t49 t50 t51 t52 t53 t54 t55 t56 t57 t58 t59 t60 t61 t62 t63 t64 t65 t66 t67 t68 t69 t70 t71 t72 t73 t74 t75 t76 t77 t78 t79 t80 t81 t82 t83 t84 t85 t86 t87 t88 t89 t90 t91 t92 t93 t94 t95 t96 t97 t98 t99 t100 t101 t102 t103 t104 t105 t106 t107 t108 t109 t110 t111 t112 t113 t114 t115 t116 t117 t118 t119 t120 t121 t122 t123 t124 t125 t126 t127 t128 t129 t130 t131 t132 t133 t134 t135 t136 t137 t138 t139 t140 t141 t142 t143 t144 t145 t146 t147 t148 t149 t150 t151 t152 t153 t154 t155 t156 t157 t158 t159 t160 t161 t162 t163 t164 t165 t166 t167 t168 t169 t170 t171 t172 t173 t174 t175 t176 t177 t178 t179 t180 t181 t182 t183 t184 t185 t186 t187 t188 t189 t190 t191 t192 t193 t194 t195 t196 t197 t198 t199 : Value} (b p : List UInt8) (A0 A3 : Option Addr) (c0 c3 : Nat) (g : Nat) (s : UInt32) (n : Int) (A17 : Option Addr) (c17 : Nat) (W0 w : World) (HST : Hid (StreamAt w g s n)) (hg : W0.heap.size ≤ g) (HRB : Hid (RdS vB W0 A0 b)) (HRP : Hid (RdS vB W0 A3 p)) (hc0 : b.length ≤ c0) (hc3 : p.length ≤ c3) (hm0 : c0 ≤ 9223372036854775807) (hm3 : c3 ≤ 9223372036854775807) (hb : b.length ≤ 80) (hp : p.length ≤ b.length) (HO17 : Hid (OwnS vB 5 w W0.heap.size (.slice A17 b.length c17) b)) (HE : Hid (Ext W0 w)) :
    (tailN 10 sumBody).wp Try.prog (QE 8 W0) ⟨(.slice A0 b.length c0 :: t1 :: t2 :: .slice A3 p.length c3 :: t4 :: t5 :: t6 :: t7 :: t8 :: .pointer (some ⟨g, 0, none⟩) :: t10 :: t11 :: t12 :: t13 :: t14 :: t15 :: t16 :: .slice A17 b.length c17 :: t18 :: t19 :: t20 :: t21 :: t22 :: t23 :: t24 :: t25 :: t26 :: t27 :: t28 :: t29 :: t30 :: t31 :: t32 :: t33 :: t34 :: t35 :: t36 :: t37 :: t38 :: t39 :: t40 :: t41 :: t42 :: t43 :: t44 :: t45 :: t46 :: t47 :: t48 :: t49 :: t50 :: t51 :: t52 :: t53 :: t54 :: t55 :: t56 :: t57 :: t58 :: t59 :: t60 :: t61 :: t62 :: t63 :: t64 :: t65 :: t66 :: t67 :: t68 :: t69 :: t70 :: t71 :: t72 :: t73 :: t74 :: t75 :: t76 :: t77 :: t78 :: t79 :: t80 :: t81 :: t82 :: t83 :: t84 :: t85 :: t86 :: t87 :: t88 :: t89 :: t90 :: t91 :: t92 :: t93 :: t94 :: t95 :: t96 :: t97 :: t98 :: t99 :: t100 :: t101 :: t102 :: t103 :: t104 :: t105 :: t106 :: t107 :: t108 :: t109 :: t110 :: t111 :: t112 :: t113 :: t114 :: t115 :: t116 :: t117 :: t118 :: t119 :: t120 :: t121 :: t122 :: t123 :: t124 :: t125 :: t126 :: t127 :: t128 :: t129 :: t130 :: t131 :: t132 :: t133 :: t134 :: t135 :: t136 :: t137 :: t138 :: t139 :: t140 :: t141 :: t142 :: t143 :: t144 :: t145 :: t146 :: t147 :: t148 :: t149 :: t150 :: t151 :: t152 :: t153 :: t154 :: t155 :: t156 :: t157 :: t158 :: t159 :: t160 :: t161 :: t162 :: t163 :: t164 :: t165 :: t166 :: t167 :: t168 :: t169 :: t170 :: t171 :: t172 :: t173 :: t174 :: t175 :: t176 :: t177 :: t178 :: t179 :: t180 :: t181 :: t182 :: t183 :: t184 :: t185 :: t186 :: t187 :: t188 :: t189 :: t190 :: t191 :: t192 :: t193 :: t194 :: t195 :: t196 :: t197 :: t198 :: t199 :: []).toArray, []⟩ w := by
  refine wp_step rfl fun K hK => ?_
  have HK := Lib.hid hK; clear hK
  conv => arg 2; whnf
  have HX := Lib.hid (Ext.refl w)
  have hsb : ∀ W, Ext W0 W → SlV vB W (.slice A0 b.length c0) b := fun W h => ⟨_, _, rfl, hc0, by unfold maxLen; omega, HRB.out.ext h⟩
  have hsp : ∀ W, Ext W0 W → SlV vB W (.slice A3 p.length c3) p := fun W h => ⟨_, _, rfl, hc3, by unfold maxLen; omega, HRP.out.ext h⟩
  have HSB := Lib.hid hsb; clear hsb
  have HSP := Lib.hid hsp; clear hsp
  have hqz : IntKind.i64.wrap ((b.length : Int) - (p.length : Int)) = (b.length : Int) - (p.length : Int) := IntWalk.i64_in _ (by omega)
  have HSPL := Lib.hid (spoilL_len b p hp)
  go_wp2_with fail
  go_loopw [142] (fun i wr => ∃ k : Nat, k ≤ p.length ∧ i = .int .i64 k ∧ Hid (OwnS vB 5 wr W0.heap.size (.slice A17 b.length c17) (mixTo (spoilL b p) b k)) ∧ Hid (StreamAt wr g s n) ∧ Hid (Ext W0 wr)) (fun i _ => p.length - (intOf i).toNat)
  case atStart => exact ⟨0, by omega, rfl, by rw [mixTo_zero]; exact HO17, HST, HE⟩
  case round =>
    clear HO17 HST HE HX
    obtain ⟨k, hk, rfl, HO, HST, HE⟩ := hrel
    by_cases hlt : k < p.length
    · have hlx : k < b.length := by omega
      obtain ⟨b2, o2, rfl, hbl2, hc2⟩ := HRP.out.at_ hlt
      obtain ⟨g1, rfl, hg1, hg2, hc1, hf1, hs1⟩ := HO.out.at_ (k := k) (by rw [mixTo_length _ HSPL.out]; exact hlx)
      rw [mixTo_get k HSPL.out hlx] at hc1
      have hc2' := HE.out.cl hc2
      clear hc2
      unfold vB at hc2' hc1
      have HS := Lib.hid hs1; clear hs1
      have hxr : bits .xor .u8 (b8 b[k]) (b8 p[k]) = b8 (b[k] ^^^ p[k]) := b_xor _ _
      have q1 : (k : Int) < (b.length : Int) := by omega
      go_wp2_with fail
      refine ⟨⟨k + 1, by omega, by go_num, ?_, Lib.hid (HST.out.gb (gb_set (gb_ext (Ext.refl wr) (some g1)) k _) (fun e => own_ne HO.out HST.out (by decide) (by rw [← e]; rfl))), Lib.hid (HE.out.set hg1 _)⟩, by simp [intOf]; omega⟩
      have h := HS.out ((spoilL b p)[k]'(by rw [HSPL.out]; exact hlx))
      rw [mixTo_set k HSPL.out hlx] at h
      have e : (spoilL b p)[k]'(by rw [HSPL.out]; exact hlx) = b[k] ^^^ p[k] := by
        simp only [spoilL, List.getElem_zipWith, padZ]
        rw [List.getElem_append_left hlt]
      rw [e] at h
      exact Lib.hid h
    · obtain rfl : k = p.length := by omega
      have h := HO.out.sl
      rw [spoil_all b p hp] at h
      go_wp2_with fail
      exact HK.out _ _ (ts11 b p A0 A3 c0 c3 g s n _ W0 _ HST hg HRB HRP hc0 hc3 hm0 hm3 hb hp (Lib.hid h) HE)
set_option maxRecDepth 1000000 in
set_option maxHeartbeats 1000000 in
theorem ts9 {t1 t2 t4 t5 t6 t7 t8 t10 t11 t12 t13 t14 t15 t16 t17 t18 t19 t20 t21 t22 t23 t24 t25 t26 t27 t28 t29 t30 t31 t32 t33 t34 t35 t36 t37 t38 t39 t40 t41 t42 t43 t44 t45 t46 t47 t48 t49 t50 t51 t52 t53 t54 t55 t56 t57 t58 t59 t60 t61 t62 t63 t64 t65 t66 t67 t68 t69 t70 t71 t72 t73 t74 t75 t76 t77 t78 t79 t80 t81 t82 t83 t84 t85 t86 t87 t88 t89 t90 t91 t92 t93 t94 t95 t96 t97 t98 t99 t100 t101 t102 t103 t104 t105 t106 t107 t108 t109 t110 t111 t112 t113 t114 t115 t116 t117 t118 t119 t120 t121 t122 t123 t124 t125 t126 t127 t128 t129 t130 t131 t132 t133 t134 t135 t136 t137 t138 t139 t140 t141 t142 t143 t144 t145 t146 t147 t148 t149 t150 t151 t152 t153 t154 t155 t156 t157 t158 t159 t160 t161 t162 t163 t164 t165 t166 t167 t168 t169 t170 t171 t172 t173 t174 t175 t176 t177 t178 t179 t180 t181 t182 t183 t184 t185 t186 t187 t188 t189 t190 t191 t192 t193 t194 t195 t196 t197 t198 t199 : Value} (b p : List UInt8) (A0 A3 : Option Addr) (c0 c3 : Nat) (g : Nat) (s : UInt32) (n : Int) (W0 w : World) (HST : Hid (StreamAt w g s n)) (hg : W0.heap.size ≤ g) (HRB : Hid (RdS vB W0 A0 b)) (HRP : Hid (RdS vB W0 A3 p)) (hc0 : b.length ≤ c0) (hc3 : p.length ≤ c3) (hm0 : c0 ≤ 9223372036854775807) (hm3 : c3 ≤ 9223372036854775807) (hb : b.length ≤ 80) (hp : p.length ≤ b.length) (HE : Hid (Ext W0 w)) :
    (tailN 9 sumBody).wp Try.prog (QE 8 W0) ⟨(.slice A0 b.length c0 :: t1 :: t2 :: .slice A3 p.length c3 :: t4 :: t5 :: t6 :: t7 :: t8 :: .pointer (some ⟨g, 0, none⟩) :: t10 :: t11 :: t12 :: t13 :: t14 :: t15 :: t16 :: t17 :: t18 :: t19 :: t20 :: t21 :: t22 :: t23 :: t24 :: t25 :: t26 :: t27 :: t28 :: t29 :: t30 :: t31 :: t32 :: t33 :: t34 :: t35 :: t36 :: t37 :: t38 :: t39 :: t40 :: t41 :: t42 :: t43 :: t44 :: t45 :: t46 :: t47 :: t48 :: t49 :: t50 :: t51 :: t52 :: t53 :: t54 :: t55 :: t56 :: t57 :: t58 :: t59 :: t60 :: t61 :: t62 :: t63 :: t64 :: t65 :: t66 :: t67 :: t68 :: t69 :: t70 :: t71 :: t72 :: t73 :: t74 :: t75 :: t76 :: t77 :: t78 :: t79 :: t80 :: t81 :: t82 :: t83 :: t84 :: t85 :: t86 :: t87 :: t88 :: t89 :: t90 :: t91 :: t92 :: t93 :: t94 :: t95 :: t96 :: t97 :: t98 :: t99 :: t100 :: t101 :: t102 :: t103 :: t104 :: t105 :: t106 :: t107 :: t108 :: t109 :: t110 :: t111 :: t112 :: t113 :: t114 :: t115 :: t116 :: t117 :: t118 :: t119 :: t120 :: t121 :: t122 :: t123 :: t124 :: t125 :: t126 :: t127 :: t128 :: t129 :: t130 :: t131 :: t132 :: t133 :: t134 :: t135 :: t136 :: t137 :: t138 :: t139 :: t140 :: t141 :: t142 :: t143 :: t144 :: t145 :: t146 :: t147 :: t148 :: t149 :: t150 :: t151 :: t152 :: t153 :: t154 :: t155 :: t156 :: t157 :: t158 :: t159 :: t160 :: t161 :: t162 :: t163 :: t164 :: t165 :: t166 :: t167 :: t168 :: t169 :: t170 :: t171 :: t172 :: t173 :: t174 :: t175 :: t176 :: t177 :: t178 :: t179 :: t180 :: t181 :: t182 :: t183 :: t184 :: t185 :: t186 :: t187 :: t188 :: t189 :: t190 :: t191 :: t192 :: t193 :: t194 :: t195 :: t196 :: t197 :: t198 :: t199 :: []).toArray, []⟩ w := by
  refine wp_step rfl fun K hK => ?_
  have HK := Lib.hid hK; clear hK
  conv => arg 2; whnf
  have HX := Lib.hid (Ext.refl w)
  have hsb : ∀ W, Ext W0 W → SlV vB W (.slice A0 b.length c0) b := fun W h => ⟨_, _, rfl, hc0, by unfold maxLen; omega, HRB.out.ext h⟩
  have hsp : ∀ W, Ext W0 W → SlV vB W (.slice A3 p.length c3) p := fun W h => ⟨_, _, rfl, hc3, by unfold maxLen; omega, HRP.out.ext h⟩
  have HSB := Lib.hid hsb; clear hsb
  have HSP := Lib.hid hsp; clear hsp
  have hqz : IntKind.i64.wrap ((b.length : Int) - (p.length : Int)) = (b.length : Int) - (p.length : Int) := IntWalk.i64_in _ (by omega)
  go_wp2_with (first | (go_at_call 7; (with_reducible refine (copied_c _ b _ (HSB.out _ HE.out) (by omega)).mono ?_); rintro e' w2 ⟨v2, rfl, ho2, hE2⟩; obtain ⟨A2, c2, rfl, _, _, _⟩ := ho2.form; have HO2 := Lib.hid ho2; have HB2 := Lib.hid (HE.out.size); have HBX := Lib.hid (HX.out.size); clear ho2; have HE := Lib.hid (HE.out.tr hE2); have HX := Lib.hid (HX.out.tr hE2); have HST := Lib.hid (HST.out.ext hE2); clear hE2))
  exact HK.out _ _ (ts10 b p A0 A3 c0 c3 g s n A2 c2 W0 _ HST hg HRB HRP hc0 hc3 hm0 hm3 hb hp (Lib.hid (HO2.out.lower HB2.out)) HE)
end Go.Proofs.Ytmcgcfbdofpfdaa
