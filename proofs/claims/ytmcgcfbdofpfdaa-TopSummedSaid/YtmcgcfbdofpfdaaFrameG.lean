/- The walk of Parse's inner function: a block is cloned and appended. -/
import Derived.Test.YtmcgcfbdofpfdaaFrameF
import Derived.Deep.RegionLaw
namespace Go.Proofs.Ytmcgcfbdofpfdaa
open Go.RowKit
theorem step_append_S {P : Program} {α : Type} {enc : α → Value} {ys : List α} (hone : ∀ x ∈ ys, (enc x).oneCell' = true) {ops : Array Oper} {o : Oper} {a : Act} {w : World} {K : Act → World → Prop} {Q : Exit → Act → World → Prop} {E : Prop} (hg : o.guard = none) (s x : Operand) (t T : TypeId) (z : Value) (bytes : Nat) (base : Nat)
    (ho : o.op = .call { callee := .builtin .append, args := #[s, x], argTypes := #[t, t] }) (ht : P.underlying t = some (.slice T))
    (hi : (P.info? T).map (fun i => (i.zero, i.size, i.bytes)) = some (some z, 1, bytes)) (hz : z.cells.size = 1)
    {v : Value} {xs : List α} (hs : a.eval s = v) (hown : OwnS enc T w base v xs) {A : Option Addr} {n c : Nat} (hx : a.eval x = .slice A n c) (hn : n = ys.length) (hr : RdS enc w A ys)
    (h63 : xs.length + ys.length ≤ maxLen) (hbytes : (xs.length + ys.length) * bytes ≤ 140737488355328) (hbase : base ≤ w.heap.size)
    (h : ∀ v' w', OwnS enc T w' base v' (xs ++ ys) → w.grownBy w' v.ownBlock → K (a.put o.dst v') w') :
    if Region.wanted o (yielded ops a.tmps) = true then Oper.wp P o a w K Q else E := by
  have hw : Region.wanted o (yielded ops a.tmps) = true := by simp [Region.wanted, hg]
  rw [if_pos hw]
  exact wp_append_S hone s x t T z bytes base ho ht hi hz hs hown hx hn hr h63 hbytes hbase fun v' w' h2 h3 _ => h v' w' h2 h3
/-- A value that owns its bytes, in a block of bytes. -/
def R8 (w : World) (v : Value) (x : List UInt8) : Prop := OwnS vB 5 w 0 v x
theorem stays_R8 : Stays R8 := fun _ _ _ _ hE h => OwnS.ext h hE
theorem R8.gb {w w' : World} {v : Value} {x : List UInt8} (h : R8 w v x) {g : Nat} {cs : Array Value} {t : TypeId} {fr : Nat × Nat} (hb : w.heap[g]? = some (.cells cs t fr)) (ht : 5 ≠ t) (hg : w.grownBy w' (some g)) : R8 w' v x :=
  OwnS.other h hg (.inr (own_ne h hb ht))
theorem own_blk {α : Type} {enc : α → Value} {T : TypeId} {w : World} {base : Nat} {v : Value} {xs : List α} (h : OwnS enc T w base v xs) {g : Nat} (hg : v.ownBlock = some g) : ∃ cs, w.heap[g]? = some (.cells cs T (0, 0)) := by
  rcases h.2 with ⟨rfl, _⟩ | ⟨g', cap, cur, rfl, _, hh, _⟩
  · simp [Value.ownBlock] at hg
  · simp [Value.ownBlock] at hg
    subst hg
    exact ⟨_, hh⟩
theorem R8.row {α : Type} {enc : α → Value} {T : TypeId} {w w' : World} {base : Nat} {u v : Value} {xs : List α} {x : List UInt8} (h : R8 w v x) (hu : OwnS enc T w base u xs) (hT : 5 ≠ T) (hg : w.grownBy w' u.ownBlock) : R8 w' v x := by
  cases hb : u.ownBlock with
  | none => rw [hb] at hg; exact OwnS.other h hg (by
      cases hv : v.ownBlock with
      | none => exact .inl rfl
      | some k => exact .inr (by simp))
  | some g =>
    obtain ⟨cs, hc⟩ := own_blk hu hb
    rw [hb] at hg
    exact R8.gb h hc hT hg
/-- The two cells that the inner function holds, and what they hold. -/
structure Holds (W0 w : World) (g9 g8 : Nat) (hc : List Value) (vb : Value) (bl : List (List UInt8)) : Prop where
  ok : w.heap[g9]? = some (.cells #[.bool true] 4 (0, 0))
  sh : w.heap[g8]? = some (.cells (hc ++ [vb]).toArray 96 (0, 0))
  own : OwnR R8 22 w W0.heap.size vb bl
  ext : Ext W0 w
  lo9 : W0.heap.size ≤ g9
  lo8 : W0.heap.size ≤ g8
theorem Holds.more {W0 w w' : World} {g9 g8 : Nat} {hc : List Value} {vb : Value} {bl : List (List UInt8)} (h : Holds W0 w g9 g8 hc vb bl) (hE : Ext w w') : Holds W0 w' g9 g8 hc vb bl :=
  ⟨hE.heap h.ok, hE.heap h.sh, h.own.ext stays_R8 hE, h.ext.tr hE, h.lo9, h.lo8⟩
theorem OwnR.gb8 {w w' : World} {base : Nat} {vb : Value} {bl : List (List UInt8)} (h : OwnR R8 22 w base vb bl) {g : Nat} {cs : Array Value} {t : TypeId} {fr : Nat × Nat} (hb : w.heap[g]? = some (.cells cs t fr)) (ht : 5 ≠ t) (ht2 : 22 ≠ t) (hg : w.grownBy w' (some g)) : OwnR R8 22 w' base vb bl := by
  obtain ⟨vs, ho, hl, hr⟩ := h
  exact ⟨vs, ho.other hg (.inr (own_ne ho hb ht2)), hl, fun k h h' => (hr k h h').gb hb ht hg⟩
theorem Holds.sh16 {W0 w : World} {g9 g8 : Nat} {hc : List Value} {vb : Value} {bl : List (List UInt8)} (h : Holds W0 w g9 g8 hc vb bl) (hh : hc.length = 16) : w.cell? ⟨g8, 16, none⟩ = some vb := by
  rw [blk_cell h.sh]
  simp [List.getElem?_append_right, hh]
theorem Holds.set9 {W0 w : World} {g9 g8 : Nat} {hc : List Value} {vb : Value} {bl : List (List UInt8)} (h : Holds W0 w g9 g8 hc vb bl) (hne : g9 ≠ g8) : Holds W0 (w.setCell ⟨g9, 0, none⟩ (.bool true)) g9 g8 hc vb bl := by
  have hg : w.grownBy (w.setCell ⟨g9, 0, none⟩ (.bool true)) (some g9) := gb_set (gb_ext (Ext.refl w) _) _ _
  exact ⟨blk_set h.ok 0 _, (hg.block g8 (blk_lt h.sh) (fun e => hne (by injection e with e; exact e.symm))).trans h.sh, h.own.gb8 h.ok (by decide) (by decide) hg, h.ext.gr hg (fun k hk => by injection hk with e; exact e ▸ h.lo9), h.lo9, h.lo8⟩
theorem Holds.append {W0 w w' : World} {g9 g8 : Nat} {hc : List Value} {vb vb' v : Value} {vs : List Value} {b : List UInt8} {bl : List (List UInt8)} (h : Holds W0 w g9 g8 hc vb bl) (hh : hc.length = 16) (hne : g9 ≠ g8) (ho : OwnS idV 22 w W0.heap.size vb vs) (hl : vs.length = bl.length) (hr : ∀ k, (h : k < vs.length) → (h' : k < bl.length) → R8 w vs[k] bl[k])
    (hv : R8 w v b) (ho' : OwnS idV 22 w' W0.heap.size vb' (vs ++ [v])) (hg : w.grownBy w' vb.ownBlock) : Holds W0 (w'.setCell ⟨g8, 16, none⟩ vb') g9 g8 hc vb' (bl ++ [b]) := by
  have hok : w'.heap[g9]? = some (.cells #[.bool true] 4 (0, 0)) := (hg.block g9 (blk_lt h.ok) (fun e => own_ne ho h.ok (by decide) e.symm)).trans h.ok
  have hsh : w'.heap[g8]? = some (.cells (hc ++ [vb]).toArray 96 (0, 0)) := (hg.block g8 (blk_lt h.sh) (fun e => own_ne ho h.sh (by decide) e.symm)).trans h.sh
  have hg8 : w'.grownBy (w'.setCell ⟨g8, 16, none⟩ vb') (some g8) := gb_set (gb_ext (Ext.refl w') _) _ _
  refine ⟨(hg8.block g9 (blk_lt hok) (fun e => hne (by injection e))).trans hok, ?_, ⟨vs ++ [v], ho'.other hg8 (.inr (own_ne ho' hsh (by decide))), by simp [hl], ?_⟩, (h.ext.gr hg ho.ge).gr hg8 (fun k hk => by injection hk with e; exact e ▸ h.lo8), h.lo9, h.lo8⟩
  · rw [blk_set hsh]
    congr 2
    simp [List.set_append, hh]
  · intro k h1 h2
    have hx : ∀ u x, R8 w u x → R8 (w'.setCell ⟨g8, 16, none⟩ vb') u x := fun u x hR => (hR.row ho (by decide) hg).gb hsh (by decide) hg8
    by_cases hk : k < vs.length
    · have e1 : (vs ++ [v])[k] = vs[k] := List.getElem_append_left hk
      have e2 : (bl ++ [b])[k] = bl[k]'(by omega) := List.getElem_append_left (by omega)
      rw [e1, e2]
      exact hx _ _ (hr k hk (by omega))
    · have hk2 : k = vs.length := by simp at h1; omega
      have e1 : (vs ++ [v])[k] = v := by subst hk2; simp
      have e2 : (bl ++ [b])[k] = b := by subst hk2; simp [hl]
      rw [e1, e2]
      exact hx _ _ hv
theorem Holds.sh4 {W0 w w' : World} {g9 g8 : Nat} {hc : List Value} {vb : Value} {vs : List Value} {bl : List (List UInt8)} (h : Holds W0 w g9 g8 hc vb bl) (ho : OwnS idV 22 w W0.heap.size vb vs) (hg : w.grownBy w' vb.ownBlock) :
    w'.heap[g8]? = some (.cells (hc ++ [vb]).toArray 96 (0, 0)) := (hg.block g8 (blk_lt h.sh) (fun e => own_ne ho h.sh (by decide) e.symm)).trans h.sh
theorem Holds.room {W0 w w' : World} {g9 g8 : Nat} {hc : List Value} {vb : Value} {vs : List Value} {bl : List (List UInt8)} (h : Holds W0 w g9 g8 hc vb bl) (hh : hc.length = 16) (ho : OwnS idV 22 w W0.heap.size vb vs) (hg : w.grownBy w' vb.ownBlock) :
    w'.cell? ⟨g8, 16, none⟩ = some vb ∧ w'.frozen? ⟨g8, 16, none⟩ = false := by
  have hsh : w'.heap[g8]? = some (.cells (hc ++ [vb]).toArray 96 (0, 0)) := (hg.block g8 (blk_lt h.sh) (fun e => own_ne ho h.sh (by decide) e.symm)).trans h.sh
  refine ⟨?_, blk_fr hsh 16⟩
  rw [blk_cell hsh]
  simp [List.getElem?_append_right, hh]
theorem RdS_one (w : World) (v : Value) (T : TypeId) : RdS idV (w.alloc (.cells #[v] T)) (some ⟨w.heap.size, 0, none⟩) [v] :=
  RdS.blk (enc := idV) (heap_alloc_new w (.cells #[v] T)) 0 [v] (fun k hk => by simp at hk; subst hk; rfl)
/-- Blocks of that type stay as they are. -/
def Keeps (T : TypeId) (w w' : World) : Prop := ∀ (k : Nat) (cs : Array Value), w.heap[k]? = some (Obj.cells cs T (0, 0)) → w'.heap[k]? = some (Obj.cells cs T (0, 0))
theorem Keeps.tr {T : TypeId} {a b c : World} (h : Keeps T a b) (k : Keeps T b c) : Keeps T a c := fun i cs hi => k i cs (h i cs hi)
theorem Keeps.of_ext {T : TypeId} {a b : World} (h : Ext a b) : Keeps T a b := fun _ _ hi => h.heap hi
theorem Keeps.of_gb {T t : TypeId} {a b : World} {g : Nat} {cs : Array Value} {fr : Nat × Nat} (hg : a.grownBy b (some g)) (hb : a.heap[g]? = some (.cells cs t fr)) (ht : T ≠ t) : Keeps T a b := fun k c hk =>
  (hg.block k (blk_lt hk) (fun e => by
    injection e with e
    subst e
    rw [hk] at hb
    injection hb with hb
    injection hb with _ e
    exact ht e)).trans hk
theorem Keeps.of_own {α : Type} {enc : α → Value} {T T' : TypeId} {a b : World} {base : Nat} {u : Value} {xs : List α} (hg : a.grownBy b u.ownBlock) (hu : OwnS enc T' a base u xs) (ht : T ≠ T') : Keeps T a b := by
  cases hb : u.ownBlock with
  | none => rw [hb] at hg; exact fun k c hk => (hg.block k (blk_lt hk) (by simp)).trans hk
  | some g =>
    obtain ⟨cs, hc⟩ := own_blk hu hb
    rw [hb] at hg
    exact Keeps.of_gb hg hc ht
theorem OwnS.keep {α : Type} {enc : α → Value} {T : TypeId} {w w' : World} {base : Nat} {v : Value} {xs : List α} (h : OwnS enc T w base v xs) (hk : Keeps T w w') : OwnS enc T w' base v xs := by
  refine ⟨h.1, ?_⟩
  rcases h.2 with h2 | ⟨g, cap, cur, hv, hg, hh, r⟩
  · exact .inl h2
  · exact .inr ⟨g, cap, cur, hv, hg, hk _ _ hh, r⟩
theorem infoS8 : (Try.prog.info? 22).map (fun i => (i.zero, i.size, i.bytes)) = some (some (.slice none 0 0), 1, 24) := by kernel_rfl
set_option maxRecDepth 8000 in
theorem push_c (j : Int) (v : Value) (b : List UInt8) (W0 w : World) (g9 g8 : Nat) (hc : List Value) (vb : Value) (bl : List (List UInt8)) (hv : SlV vB W0 v b) (hn : b.length ≤ 70368744177664) (hbl : bl.length ≤ 4096) (hh : hc.length = 16) (h : Holds W0 w g9 g8 hc vb bl) :
    Calls Try.prog 79 #[.int .i64 j, v, .bool true, .pointer (some ⟨g9, 0, none⟩), .pointer (some ⟨g8, 0, none⟩)] w fun e w' => e = .returned (.tuple #[]) ∧ (∃ vb', Holds W0 w' g9 g8 hc vb' (bl ++ [b])) ∧ Keeps 3 w w' := by
  have hk1 : Keeps 3 w (w.setCell ⟨g9, 0, none⟩ (.bool true)) := Keeps.of_gb (gb_set (gb_ext (Ext.refl w) (some g9)) 0 (.bool true)) h.ok (by decide)
  have HK1 := Lib.hid hk1; clear hk1
  have c9 : w.cell? ⟨g9, 0, none⟩ = some (.bool true) := blk_cell h.ok 0
  have f9 : w.frozen? ⟨g9, 0, none⟩ = false := blk_fr h.ok 0
  have hne : g9 ≠ g8 := by
    rintro rfl
    have := h.ok
    rw [h.sh] at this
    injection this with this
    injection this with _ ht
    exact absurd ht (by decide)
  have HNE := Lib.hid hne; clear hne
  have H := Lib.hid h; clear h
  have HV := Lib.hid hv; clear hv
  have HH := Lib.hid hh; clear hh
  go_enter Try.func79, Try.ntmps79
  go_upto_region 1 with fail
  have h2 := H.out.set9 HNE.out
  clear H c9 f9
  generalize w.setCell ⟨g9, 0, none⟩ (.bool true) = w1 at h2 HK1 ⊢
  have c16 := h2.sh16 HH.out
  have f16 : w1.frozen? ⟨g8, 16, none⟩ = false := blk_fr h2.sh 16
  obtain ⟨vs, hvo, hvl, hvr⟩ := h2.own
  have HVO := Lib.hid hvo; clear hvo
  have HVL := Lib.hid hvl; clear hvl
  have HVR := Lib.hid hvr; clear hvr
  have H2 := Lib.hid h2; clear h2
  go_region_law (first | (go_simp; go_at_call 71; (with_reducible refine (bclone_c _ b _ (HV.out.ext H2.out.ext.dr) (by omega)).mono ?_); rintro e w3 ⟨v3, rfl, ho3, hE3⟩; obtain ⟨A3, c3, rfl, h3a, h3b, h3c⟩ := ho3.form; clear h3a h3b h3c; have HO3 := Lib.hid ho3; have HE3 := Lib.hid (Ext.tr ((Ext.refl w1).dr) hE3); have c17 := HE3.out.cl c16; have c19 := (HE3.out.al (.cells #[.slice A3 b.length c3] 22)).cl c16) | (refine step_append_S (enc := idV) (ys := [.slice A3 b.length c3]) (fun x hx => by simp at hx; subst hx; rfl) rfl (.tmp 13) (.tmp 16) 63 22 _ 24 W0.heap.size rfl Try.underlying63 infoS8 rfl (v := vb) rfl (HVO.out.ext (HE3.out.al _)) rfl rfl (RdS_one _ _ _) (by simp [maxLen, HVL.out]; omega) (by simp [HVL.out]; omega) (by have := (H2.out.ext.tr HE3.out).size; simp; omega) ?_; intro v4 w4 ho4 hg4; have H3 := Lib.hid (H2.out.more (HE3.out.al (.cells #[.slice A3 b.length c3] 22))); obtain ⟨c18, f18⟩ := H3.out.room HH.out (HVO.out.ext (HE3.out.al _)) hg4; obtain ⟨A4, c4, rfl, h4a, h4b, h4c⟩ := ho4.form; clear h4a h4b h4c; rw [show (vs ++ [Value.slice A3 b.length c3]).length = vs.length + 1 from by simp] at ho4; have HO4 := Lib.hid ho4; have HG4 := Lib.hid hg4; have HK4 : Hid (Keeps 3 w w4) := Lib.hid ((HK1.out.tr (Keeps.of_ext (HE3.out.al _))).tr (Keeps.of_own hg4 (HVO.out.ext (HE3.out.al _)) (by decide))); have HSH := Lib.hid (H3.out.sh4 (HVO.out.ext (HE3.out.al _)) hg4); clear ho4 hg4))
  all_goals
    go_wp2_with fail
    go_end0
    refine ⟨rfl, ⟨_, H3.out.append HH.out HNE.out (HVO.out.ext (HE3.out.al _)) HVL.out (fun k h h' => stays_R8 _ _ _ _ (HE3.out.al _) (HVR.out k h h')) (OwnS.ext (HO3.out.lower (Nat.zero_le _)) ((Ext.refl _).al _)) HO4.out HG4.out⟩, HK4.out.tr (Keeps.of_gb (gb_set (gb_ext (Ext.refl _) (some g8)) 16 _) HSH.out (by decide))⟩
end Go.Proofs.Ytmcgcfbdofpfdaa
