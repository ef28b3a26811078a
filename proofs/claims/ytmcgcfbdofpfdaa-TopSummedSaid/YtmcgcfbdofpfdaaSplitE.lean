/- The walk of the loop of stripe.Split that hands a shard its blocks. -/
import Derived.Test.YtmcgcfbdofpfdaaSplitC
namespace Go.Proofs.Ytmcgcfbdofpfdaa
open Go.RowKit
attribute [local irreducible] gmul gpow ginv
def chunksL (lens : List Nat) (x : List UInt8) (s : Nat) : List (List UInt8) := (List.range s).map fun j => (x.drop (sumTo lens j)).take (lens.getD j 0)
theorem chunksL_succ (lens : List Nat) (x : List UInt8) (s : Nat) : chunksL lens x (s + 1) = chunksL lens x s ++ [(x.drop (sumTo lens s)).take (lens.getD s 0)] := by simp [chunksL, List.range_succ]
theorem chunksL_len (lens : List Nat) (x : List UInt8) (s : Nat) : (chunksL lens x s).length = s := by simp [chunksL]
theorem OwnS.chg {α : Type} {enc : α → Value} {T : TypeId} {w w' : World} {base : Nat} {v : Value} {xs : List α} {S : List Nat} (h : OwnS enc T w base v xs) (hC : Chg S w w') (hn : ∀ k, v.ownBlock = some k → k ∉ S) : OwnS enc T w' base v xs := by
  refine ⟨h.1, ?_⟩
  rcases h.2 with h2 | ⟨g, cap, cur, hv, hg, hh, r⟩
  · exact .inl h2
  · exact .inr ⟨g, cap, cur, hv, hg, hC.heap hh (hn g (by rw [hv]; rfl)), r⟩
theorem upd_set (vals : Nat → List Value) (i : Nat) (a b : Value) : upd (upd vals i ((vals i).set 16 a)) i (((upd vals i ((vals i).set 16 a)) i).set 16 b) = upd vals i ((vals i).set 16 b) := by
  funext q
  unfold upd
  by_cases e : q = i
  · subst e; simp [List.set_set]
  · simp [e]
theorem blocks_step {Wq wr wa w4 wz : World} {gO gW i N cW bW : Nat} {bv b' v3 old : Value} {vs us : List Value} {bks : List (List UInt8)} {bk : List UInt8} {vals : Nat → List Value} (hi : i < N) (hus : us.length = N) (hgO : gO < Wq.heap.size) (hgW : gW < Wq.heap.size) (hne : gO ≠ gW)
    (hvo : OwnS idV 22 wr Wq.heap.size bv vs) (hvl : vs.length = bks.length) (hvr : ∀ k, (h : k < vs.length) → (h' : k < bks.length) → R8 wr vs[k] bks[k]) (hE : Ext wr wa) (h3 : R8 wa v3 bk)
    (ho4 : OwnS idV 22 w4 Wq.heap.size b' (vs ++ [v3])) (hg4 : wa.grownBy w4 bv.ownBlock) (hO : OutB w4 gO N (upd vals i ((vals i).set 16 bv))) (hW : OwnS idV 22 wr bW (.slice (some ⟨gW, 0, none⟩) N cW) (us.set i old))
    (hEz : Ext (w4.setCell ⟨gO, i * 17 + 16, none⟩ b') wz) (hC : Chg [gO, gW] Wq wr) :
    wz.cell? ⟨gW, i, none⟩ = some old ∧ wz.frozen? ⟨gW, i, none⟩ = false ∧ ∀ u', OwnS idV 22 (wz.setCell ⟨gW, i, none⟩ u') bW (.slice (some ⟨gW, 0, none⟩) N cW) (us.set i u') ∧ OutB (wz.setCell ⟨gW, i, none⟩ u') gO N (upd vals i ((vals i).set 16 b')) ∧
      OwnR R8 22 (wz.setCell ⟨gW, i, none⟩ u') Wq.heap.size b' (bks ++ [bk]) ∧ Chg [gO, gW] Wq (wz.setCell ⟨gW, i, none⟩ u') := by
  have hbn : ∀ g, g < Wq.heap.size → bv.ownBlock ≠ some g := fun g hg e => by have := hvo.ge g e; omega
  have hbn' : ∀ g, g < Wq.heap.size → b'.ownBlock ≠ some g := fun g hg e => by have := ho4.ge g e; omega
  have hW4 : OwnS idV 22 w4 bW (.slice (some ⟨gW, 0, none⟩) N cW) (us.set i old) := (hW.ext hE).other hg4 (.inr (fun e => hbn gW hgW e.symm))
  have hgs := gb_set (gb_ext (Ext.refl w4) (some gO)) (i * 17 + 16) b'
  have hWz := (hW4.other hgs (.inr (fun e => hne (by injection e with e; exact e.symm)))).ext hEz
  have hiu : i < (us.set i old).length := by rw [List.length_set, hus]; exact hi
  obtain ⟨g0, e0, _, hlt, hc, hf, hs⟩ := hWz.at_ hiu
  injection e0 with e0; injection e0 with e0; subst e0
  rw [List.getElem_set_self] at hc
  refine ⟨hc, hf, fun u' => ?_⟩
  have hgz := gb_set (gb_ext (Ext.refl wz) (some gW)) i u'
  have hOz := (hO.set hi (j := 16) (by omega) b').ext hEz
  rw [upd_set] at hOz
  have hO4 := hO
  obtain ⟨_, cs4, hb4, _, _⟩ := hO4
  obtain ⟨csw, hbw⟩ := own_blk hWz (show (Value.slice (some ⟨gW, 0, none⟩) N cW).ownBlock = some gW from rfl)
  refine ⟨?_, hOz.keep (hgz.block gO (Nat.lt_of_lt_of_le hgO (Nat.le_trans (Nat.le_trans hC.size hE.size) (Nat.le_trans hg4.size (Nat.le_trans hgs.size hEz.size)))) (fun e => hne (by injection e))), ?_, ?_⟩
  · have := hs u'
    rwa [List.set_set] at this
  · have hown := ((ho4.other hgs (.inr (hbn' gO hgO))).ext hEz).other hgz (.inr (hbn' gW hgW))
    refine ⟨vs ++ [v3], hown, by simp [hvl], fun k h1 h2 => ?_⟩
    have hx : ∀ u y, R8 wa u y → R8 (wz.setCell ⟨gW, i, none⟩ u') u y := fun u y hR => (stays_R8 _ _ _ _ hEz ((hR.row (hvo.ext hE) (by decide) hg4).gb hb4 (by decide) hgs)).gb hbw (by decide) hgz
    by_cases hk : k < vs.length
    · have e1 : (vs ++ [v3])[k] = vs[k] := List.getElem_append_left hk
      have e2 : (bks ++ [bk])[k] = bks[k]'(by omega) := List.getElem_append_left (by omega)
      rw [e1, e2]
      exact hx _ _ (stays_R8 _ _ _ _ hE (hvr k hk (by omega)))
    · have hk2 : k = vs.length := by simp at h1; omega
      have e1 : (vs ++ [v3])[k] = v3 := by subst hk2; simp
      have e2 : (bks ++ [bk])[k] = bk := by subst hk2; simp [hvl]
      rw [e1, e2]
      exact hx _ _ h3
  · have h1 : Chg [gO, gW] Wq wa := hC.tr (Chg.of_ext hE _)
    have h2 : Chg [gO, gW] Wq w4 := by
      cases hb : bv.ownBlock with
      | none => rw [hb] at hg4; exact h1.tr (Chg.of_ext ⟨hg4.os, hg4.tape, hg4.output, hg4.size, fun k hk => hg4.block k hk (by simp)⟩ _)
      | some g =>
        rw [hb] at hg4
        exact h1.tr' (Chg.of_gb hg4) (fun q hq => .inr (by simp at hq; rw [hq]; exact hvo.ge g hb))
    have h3 : Chg [gO, gW] Wq (w4.setCell ⟨gO, i * 17 + 16, none⟩ b') := h2.set (.inl (by simp)) _ _
    exact (h3.tr (Chg.of_ext hEz _)).set (.inl (by simp)) _ _

set_option maxRecDepth 1000000 in
set_option maxHeartbeats 4000000 in
theorem split_blocks (N gO gW cW i lc bW : Nat) (lens : List Nat) (x : List UInt8) (Wq : World) (AL A0 : Option Addr) (c0 : Nat) (us : List Value) (vals : Nat → List Value) (Q0 : Exit → Act → World → Prop) (t0 t1 t2 t3 t4 t5 t6 t7 t8 t9 t10 t12 t13 t14 t15 t16 t17 t19 t21 t22 t23 t24 t25 t26 t27 t28 t29 t30 t31 t32 t33 t34 t35 t36 t37 t38 t39 t40 t41 t42 t43 t44 t45 t46 t47 t48 t49 t50 t51 t52 t53 t54 t55 t56 t57 t58 t59 t60 t61 t62 t63 t64 t65 t66 t67 t68 t69 t70 t71 t72 t73 t74 t75 t76 t77 t78 t79 t80 t81 t82 t83 t84 t85 t86 t87 t88 t89 t90 t91 t92 t93 t94 t95 t96 t97 t98 t99 t100 t101 t102 t103 t104 t105 t106 t107 t108 t109 t110 t111 t112 t113 t114 t115 t116 t117 t118 t119 t120 t121 t122 t123 t124 t125 t126 t127 t131 t132 t133 t134 t135 t136 t137 t138 t139 t140 t141 t142 t143 t144 t145 t146 t147 t148 t149 t150 t151 t152 t153 t154 t155 t156 t157 t158 t159 t160 t161 t162 t163 : Value)
    (hi : i < N) (hN : N ≤ 255) (hll : lens.length ≤ 4096) (hlc : lens.length ≤ lc) (hlc2 : lc ≤ 9223372036854775807) (hNW : N ≤ cW) (hcW : cW ≤ 9223372036854775807) (hx : x.length = sumTo lens lens.length) (hx2 : x.length ≤ 65536) (hxc : x.length ≤ c0) (hc0 : c0 ≤ 9223372036854775807) (hgO : gO < Wq.heap.size) (hgW : gW < Wq.heap.size) (hgOW : gO ≠ gW) (hus : us.length = N)
    (HL : Hid (∀ w', Chg [gO, gW] Wq w' → RdS vN w' AL lens)) (HX : Hid (∀ w', Chg [gO, gW] Wq w' → RdS vB w' A0 x))
    (HW : Hid (OwnS idV 22 Wq bW (.slice (some ⟨gW, 0, none⟩) N cW) (us.set i (.slice A0 x.length c0)))) (HO : Hid (OutB Wq gO N (upd vals i ((vals i).set 16 (.slice none 0 0)))))
    (hexit : ∀ (bv u : Value) (w' : World) (u22 u131 u132 u133 u134 u135 u136 u137 u138 u139 u140 u141 u142 u143 u144 u145 u146 u147 u148 u149 u150 u151 u152 u153 u154 u155 u156 u157 u158 u159 u160 u161 : Value), Hid (OwnS idV 22 w' bW (.slice (some ⟨gW, 0, none⟩) N cW) (us.set i u)) → Hid (OutB w' gO N (upd vals i ((vals i).set 16 bv))) → Hid (OwnR R8 22 w' Wq.heap.size bv (chunksL lens x lens.length)) → Hid (Chg [gO, gW] Wq w') → Q0 (.exit 8) ⟨(t0 :: t1 :: t2 :: t3 :: t4 :: t5 :: t6 :: t7 :: t8 :: t9 :: t10 :: .slice (some ⟨gO, 0, none⟩) N N :: t12 :: t13 :: t14 :: t15 :: t16 :: t17 :: .slice (some ⟨gW, 0, none⟩) N cW :: t19 :: .int .i64 i :: t21 :: u22 :: t23 :: t24 :: t25 :: t26 :: t27 :: t28 :: t29 :: t30 :: t31 :: t32 :: t33 :: t34 :: t35 :: t36 :: t37 :: t38 :: t39 :: t40 :: t41 :: t42 :: t43 :: t44 :: t45 :: t46 :: t47 :: t48 :: t49 :: t50 :: t51 :: t52 :: t53 :: t54 :: t55 :: t56 :: t57 :: t58 :: t59 :: t60 :: t61 :: t62 :: t63 :: t64 :: t65 :: t66 :: t67 :: t68 :: t69 :: t70 :: t71 :: t72 :: t73 :: t74 :: t75 :: t76 :: t77 :: t78 :: t79 :: t80 :: t81 :: t82 :: t83 :: t84 :: t85 :: t86 :: t87 :: t88 :: t89 :: t90 :: t91 :: t92 :: t93 :: t94 :: t95 :: t96 :: t97 :: t98 :: t99 :: t100 :: t101 :: t102 :: t103 :: t104 :: t105 :: t106 :: t107 :: t108 :: t109 :: t110 :: t111 :: t112 :: t113 :: t114 :: t115 :: t116 :: t117 :: t118 :: t119 :: t120 :: t121 :: t122 :: t123 :: t124 :: t125 :: t126 :: t127 :: .slice AL lens.length lc :: .int .i64 lens.length :: .int .i64 lens.length :: u131 :: u132 :: u133 :: u134 :: u135 :: u136 :: u137 :: u138 :: u139 :: u140 :: u141 :: u142 :: u143 :: u144 :: u145 :: u146 :: u147 :: u148 :: u149 :: u150 :: u151 :: u152 :: u153 :: u154 :: u155 :: u156 :: u157 :: u158 :: u159 :: u160 :: u161 :: t162 :: t163 :: []).toArray, []⟩ w') :
    Code.wp Try.prog (splitLoop 4) Q0 ⟨(t0 :: t1 :: t2 :: t3 :: t4 :: t5 :: t6 :: t7 :: t8 :: t9 :: t10 :: .slice (some ⟨gO, 0, none⟩) N N :: t12 :: t13 :: t14 :: t15 :: t16 :: t17 :: .slice (some ⟨gW, 0, none⟩) N cW :: t19 :: .int .i64 i :: t21 :: t22 :: t23 :: t24 :: t25 :: t26 :: t27 :: t28 :: t29 :: t30 :: t31 :: t32 :: t33 :: t34 :: t35 :: t36 :: t37 :: t38 :: t39 :: t40 :: t41 :: t42 :: t43 :: t44 :: t45 :: t46 :: t47 :: t48 :: t49 :: t50 :: t51 :: t52 :: t53 :: t54 :: t55 :: t56 :: t57 :: t58 :: t59 :: t60 :: t61 :: t62 :: t63 :: t64 :: t65 :: t66 :: t67 :: t68 :: t69 :: t70 :: t71 :: t72 :: t73 :: t74 :: t75 :: t76 :: t77 :: t78 :: t79 :: t80 :: t81 :: t82 :: t83 :: t84 :: t85 :: t86 :: t87 :: t88 :: t89 :: t90 :: t91 :: t92 :: t93 :: t94 :: t95 :: t96 :: t97 :: t98 :: t99 :: t100 :: t101 :: t102 :: t103 :: t104 :: t105 :: t106 :: t107 :: t108 :: t109 :: t110 :: t111 :: t112 :: t113 :: t114 :: t115 :: t116 :: t117 :: t118 :: t119 :: t120 :: t121 :: t122 :: t123 :: t124 :: t125 :: t126 :: t127 :: .slice AL lens.length lc :: .int .i64 lens.length :: .int .i64 0 :: t131 :: t132 :: t133 :: t134 :: t135 :: t136 :: t137 :: t138 :: t139 :: t140 :: t141 :: t142 :: t143 :: t144 :: t145 :: t146 :: t147 :: t148 :: t149 :: t150 :: t151 :: t152 :: t153 :: t154 :: t155 :: t156 :: t157 :: t158 :: t159 :: t160 :: t161 :: t162 :: t163 :: []).toArray, []⟩ Wq := by
  refine Code.wp_mono (Q := fun e a w' => match e with
    | .exit 8 => ∃ (bv u : Value) (u22 u131 u132 u133 u134 u135 u136 u137 u138 u139 u140 u141 u142 u143 u144 u145 u146 u147 u148 u149 u150 u151 u152 u153 u154 u155 u156 u157 u158 u159 u160 u161 : Value), a = ⟨(t0 :: t1 :: t2 :: t3 :: t4 :: t5 :: t6 :: t7 :: t8 :: t9 :: t10 :: .slice (some ⟨gO, 0, none⟩) N N :: t12 :: t13 :: t14 :: t15 :: t16 :: t17 :: .slice (some ⟨gW, 0, none⟩) N cW :: t19 :: .int .i64 i :: t21 :: u22 :: t23 :: t24 :: t25 :: t26 :: t27 :: t28 :: t29 :: t30 :: t31 :: t32 :: t33 :: t34 :: t35 :: t36 :: t37 :: t38 :: t39 :: t40 :: t41 :: t42 :: t43 :: t44 :: t45 :: t46 :: t47 :: t48 :: t49 :: t50 :: t51 :: t52 :: t53 :: t54 :: t55 :: t56 :: t57 :: t58 :: t59 :: t60 :: t61 :: t62 :: t63 :: t64 :: t65 :: t66 :: t67 :: t68 :: t69 :: t70 :: t71 :: t72 :: t73 :: t74 :: t75 :: t76 :: t77 :: t78 :: t79 :: t80 :: t81 :: t82 :: t83 :: t84 :: t85 :: t86 :: t87 :: t88 :: t89 :: t90 :: t91 :: t92 :: t93 :: t94 :: t95 :: t96 :: t97 :: t98 :: t99 :: t100 :: t101 :: t102 :: t103 :: t104 :: t105 :: t106 :: t107 :: t108 :: t109 :: t110 :: t111 :: t112 :: t113 :: t114 :: t115 :: t116 :: t117 :: t118 :: t119 :: t120 :: t121 :: t122 :: t123 :: t124 :: t125 :: t126 :: t127 :: .slice AL lens.length lc :: .int .i64 lens.length :: .int .i64 lens.length :: u131 :: u132 :: u133 :: u134 :: u135 :: u136 :: u137 :: u138 :: u139 :: u140 :: u141 :: u142 :: u143 :: u144 :: u145 :: u146 :: u147 :: u148 :: u149 :: u150 :: u151 :: u152 :: u153 :: u154 :: u155 :: u156 :: u157 :: u158 :: u159 :: u160 :: u161 :: t162 :: t163 :: []).toArray, []⟩ ∧ Hid (OwnS idV 22 w' bW (.slice (some ⟨gW, 0, none⟩) N cW) (us.set i u)) ∧ Hid (OutB w' gO N (upd vals i ((vals i).set 16 bv))) ∧ Hid (OwnR R8 22 w' Wq.heap.size bv (chunksL lens x lens.length)) ∧ Hid (Chg [gO, gW] Wq w')
    | _ => False) ?_ ?_
  · intro e a w' h
    split at h
    · obtain ⟨bv, u, u22, u131, u132, u133, u134, u135, u136, u137, u138, u139, u140, u141, u142, u143, u144, u145, u146, u147, u148, u149, u150, u151, u152, u153, u154, u155, u156, u157, u158, u159, u160, u161, rfl, h1, h2, h3, h4⟩ := h
      exact hexit bv u w' u22 u131 u132 u133 u134 u135 u136 u137 u138 u139 u140 u141 u142 u143 u144 u145 u146 u147 u148 u149 u150 u151 u152 u153 u154 u155 u156 u157 u158 u159 u160 u161 h1 h2 h3 h4
    · exact h.elim
  clear hexit
  have HUS := Lib.hid hus; clear hus
  have HXX := Lib.hid hx; clear hx
  have HGW := Lib.hid hgW; clear hgW
  have HGO := Lib.hid hgO; clear hgO
  have HOW := Lib.hid hgOW; clear hgOW
  conv => arg 2; whnf
  go_loopw [130] (fun ii wr => ∃ (s : Nat) (A' : Option Addr) (xl c' : Nat) (bv : Value), s ≤ lens.length ∧ ii = .int .i64 s ∧ xl ≤ c' ∧ c' ≤ 9223372036854775807 ∧ xl ≤ 65536 ∧ Hid (xl = (x.drop (sumTo lens s)).length) ∧ Hid (∀ w', Chg [gO, gW] Wq w' → RdS vB w' A' (x.drop (sumTo lens s))) ∧ Hid (OwnS idV 22 wr bW (.slice (some ⟨gW, 0, none⟩) N cW) (us.set i (.slice A' xl c'))) ∧ Hid (OutB wr gO N (upd vals i ((vals i).set 16 bv))) ∧ Hid (OwnR R8 22 wr Wq.heap.size bv (chunksL lens x s)) ∧ Hid (Chg [gO, gW] Wq wr)) (fun ii _ => lens.length - (intOf ii).toNat)
  case atStart => exact ⟨0, A0, x.length, c0, .slice none 0 0, by omega, rfl, hxc, hc0, hx2, Lib.hid (by simp [sumTo]), by simpa [sumTo] using HX, HW, HO, Lib.hid (OwnR.nil _ _), Lib.hid (Chg.of_ext (Ext.refl _) _)⟩
  case round =>
    clear HX HW HO hxc hc0 hx2
    obtain ⟨s, A', xl, c', bv, hs, rfl, hxl, hc', hx2, HXL, HX, HW, HO, HB, HC⟩ := hrel
    by_cases hlt : s < lens.length
    · obtain ⟨bL, oL, eL, _, hcL⟩ := (HL.out wr HC.out).at_ hlt
      subst eL
      unfold vN at hcL
      have HNN := Lib.hid (show lens.getD s 0 = lens[s] by rw [List.getD_eq_getElem?_getD, List.getElem?_eq_getElem hlt, Option.getD_some])
      have hxs : xl = x.length - sumTo lens s := by rw [HXL.out, List.length_drop]
      have hnx : lens[s] ≤ xl := by
        have h1 := sumTo_succ lens s hlt
        have h2 := sumTo_mono lens (s + 1) (lens.length - (s + 1)) (by omega)
        rw [show s + 1 + (lens.length - (s + 1)) = lens.length from by omega] at h2
        have h3 := HXX.out
        omega
      have HSS := Lib.hid (sumTo_succ lens s hlt)
      have HXS := Lib.hid hxs; clear hxs
      generalize lens[s] = n at hcL hnx HNN HSS
      obtain ⟨vs, hvo, hvl, hvr⟩ := HB.out
      obtain ⟨Ab, cb, rfl, hb1, hb2, _⟩ := hvo.form
      rw [chunksL_len] at hvl
      have HVO := Lib.hid hvo; clear hvo
      have HVL := Lib.hid hvl; clear hvl
      have HVR := Lib.hid hvr; clear hvr
      obtain ⟨hco, hfo⟩ := HO.out.cell hi (j := 16) (by omega)
      have hv16 : ((upd vals i ((vals i).set 16 (.slice Ab vs.length cb))) i)[16]? = some (.slice Ab vs.length cb) := by
        have h0 := HO.out.1 i
        simp only [upd, if_true] at h0 ⊢
        rw [List.getElem?_set_self (by simpa using (show 16 < ((vals i).set 16 (Value.slice Ab vs.length cb)).length by rw [h0]; omega))]
      rw [hv16] at hco
      have HV16 := Lib.hid hv16; clear hv16
      have hiu : i < (us.set i (.slice A' xl c')).length := by rw [List.length_set, HUS.out]; exact hi
      obtain ⟨gw0, egw, hbw, hgwl, hcw, hfw, hsw⟩ := HW.out.at_ hiu
      injection egw with egw; injection egw with egw; subst egw
      simp only [List.getElem_set_self, idV] at hcw
      have HSW := Lib.hid hsw; clear hsw
      have hr1 := fun w' h => (HX.out w' h).take n
      have HR1 := Lib.hid hr1; clear hr1
      have hbln : ((x.drop (sumTo lens s)).take n).length = n := by rw [List.length_take, ← HXL.out]; omega
      generalize hbk : (x.drop (sumTo lens s)).take n = bk at HR1 hbln
      have HBK := Lib.hid hbk; clear hbk
      have HBL := Lib.hid hbln; clear hbln
      have hsl : SlV vB wr (.slice A' n c') bk := ⟨_, _, by rw [HBL.out], by rw [HBL.out]; omega, by unfold maxLen; omega, HR1.out wr HC.out⟩
      have HSL := Lib.hid hsl; clear hsl
      have hvs : vs.length ≤ 4096 := by rw [HVL.out]; omega
      have HQS := Lib.hid (show Wq.heap.size ≤ wr.heap.size from HC.out.size)
      clear hb1 hb2
      have q0 : (0 : Int) ≤ (i : Int) := by omega
      have q1 : (i : Int) < (N : Int) := by omega
      have q2 : (0 : Int) ≤ (n : Int) := by omega
      have q3 : (n : Int) ≤ (c' : Int) := by omega
      have q4 : n ≤ c' := by omega
      go_upto_region 35 with fail
      clear hcL
      go_region_law (first | (go_simp; go_at_call 71; (with_reducible refine (bclone_c _ bk _ (HSL.out.ext (Ext.refl wr).dr) (by rw [HBL.out]; omega)).mono ?_); rintro e w3 ⟨v3, rfl, ho3, hE3⟩; obtain ⟨A3, c3, rfl, h3a, h3b, h3c⟩ := ho3.form; clear h3a h3b h3c; have HO3 := Lib.hid ho3; have HE3 := Lib.hid (Ext.tr ((Ext.refl wr).dr) hE3); have hco3 := HE3.out.cl hco; have hco4 := (HE3.out.al (.cells #[.slice A3 bk.length c3] 22)).cl hco; clear ho3 hE3) | (refine step_append_S (enc := idV) (ys := [.slice A3 bk.length c3]) (fun x hx => by simp at hx; subst hx; rfl) rfl (.tmp 140) (.tmp 148) 63 22 _ 24 Wq.heap.size rfl Try.underlying63 infoS8 rfl (v := .slice Ab vs.length cb) rfl (HVO.out.ext (HE3.out.al _)) rfl rfl (RdS_one _ _ _) (by simp [maxLen]; omega) (by simp; omega) (by have := HE3.out.size; have := HQS.out; simp; omega) ?_; intro v4 w4 ho4 hg4; obtain ⟨A4, c4, rfl, h4a, h4b, h4c⟩ := ho4.form; clear h4a h4b h4c; rw [show (vs ++ [Value.slice A3 bk.length c3]).length = vs.length + 1 from by simp] at ho4; have hO4 := (HO.out.ext (HE3.out.al (.cells #[.slice A3 bk.length c3] 22))).keep (hg4.block gO (Nat.lt_of_lt_of_le HGO.out (Nat.le_trans HQS.out (HE3.out.al (.cells #[.slice A3 bk.length c3] 22)).size)) (fun e => by have := HVO.out.ge gO e.symm; have := HGO.out; omega)); obtain ⟨hco5, hfo5⟩ := hO4.cell hi (j := 16) (by omega); rw [HV16.out] at hco5; have HO4 := Lib.hid hO4; clear hO4; have HOW4 := Lib.hid ho4; have HG4 := Lib.hid hg4; clear ho4 hg4))
      all_goals
        obtain ⟨hcz, hfz, hz⟩ := blocks_step (wz := w4.setCell ⟨gO, i * 17 + 16, none⟩ (.slice A4 (vs.length + 1) c4)) hi HUS.out HGO.out HGW.out HOW.out HVO.out (bks := chunksL lens x s) (by rw [HVL.out, chunksL_len]) HVR.out (HE3.out.al _) (stays_R8 _ _ _ _ ((Ext.refl _).al _) (HO3.out.lower (Nat.zero_le _))) HOW4.out HG4.out HO4.out HW.out (Ext.refl _) HC.out
        have HZ := Lib.hid hz; clear hz
        clear HO4 HOW4 HG4 hco5 hfo5 hco3 hco4 hco hfo hcw hfw
        generalize w4.setCell ⟨gO, i * 17 + 16, none⟩ (.slice A4 (vs.length + 1) c4) = wz at hcz hfz HZ ⊢
        go_upto_region 37 with fail
        generalize hA : (@ite (Option Addr) (c' = n) _ A' _) = A1
        have HA := Lib.hid hA; clear hA
        go_wp2_with fail
        obtain ⟨z1, z2, z3, z4⟩ := HZ.out (.slice A1 (xl - n) (c' - n))
        have hdd : (x.drop (sumTo lens s)).drop n = x.drop (sumTo lens (s + 1)) := by rw [List.drop_drop, HSS.out]
        refine ⟨⟨s + 1, A1, xl - n, c' - n, .slice A4 (vs.length + 1) c4, by omega, by go_num, by omega, by omega, by omega, Lib.hid (by rw [← hdd, List.length_drop, ← HXL.out]), Lib.hid (fun w' h => ?_), Lib.hid z1, Lib.hid z2, Lib.hid ?_, Lib.hid z4⟩, by simp [intOf]; omega⟩
        · have h1 := (HX.out w' h).drop (c := c') (n := n) (by rw [← HXL.out]; exact hxl)
          rw [hdd, HA.out] at h1
          exact h1
        · rw [chunksL_succ, HNN.out, HBK.out]; exact z3
    · obtain rfl : s = lens.length := by omega
      go_wp2_with fail
      exact ⟨_, _, _, _, _, _, _, _, _, _, _, _, _, _, _, _, _, _, _, _, _, _, _, _, _, _, _, _, _, _, _, _, _, _, rfl, HW, HO, HB, HC⟩
end Go.Proofs.Ytmcgcfbdofpfdaa
