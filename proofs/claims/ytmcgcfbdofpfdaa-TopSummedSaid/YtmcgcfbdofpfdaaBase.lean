/-
  Words for all walks of this family: how a world grows (Ext), how slices read (RdS, SlV), what is owned (OwnS); bits of bytes and words. No program is spoken of.
-/
import Derived.Test.YtmcgcfbdofpfdaaProg
import Derived.WalkKit
import Derived.Lib.Hide
import Derived.WalkSpells
import Derived.Deep.Draws
import Derived.Maps.AppendAt
import Derived.Deep.AppendLies
import Derived.Deep.QuietTactic
import Derived.BigQuiet
import Derived.Deep.RegionHeld3
import Derived.Deep.RegionLaw
import Derived.StillTailTactics
import Derived.Deep.LoopGhost
import Derived.Laws.CopyOwn
import Derived.Deep.DeepCutAuto
import Derived.Deep.CutBlock
namespace Go.Proofs.Ytmcgcfbdofpfdaa
open Go.RowKit

/-! ### worlds -/
abbrev Ext (w w' : World) : Prop := Below w.heap.size w w'
theorem Ext.refl (w : World) : Ext w w := Below.refl _ w
theorem Ext.tr {a b c : World} (h : Ext a b) (k : Ext b c) : Ext a c := Below.trans h (k.mono h.size)
theorem Ext.al {a b : World} (h : Ext a b) (o : Obj) : Ext a (b.alloc o) := Below.alloc h h.size o
theorem Ext.dr {a b : World} (h : Ext a b) : Ext a b.drew := Below.drew h
theorem Ext.drN {a b : World} (h : Ext a b) (n : Nat) : Ext a (b.drewN n) := ⟨h.os, h.tape, h.output, h.size, h.block⟩
theorem Ext.set {a b : World} (h : Ext a b) {p : Addr} (hp : a.heap.size ≤ p.block) (u : Value) : Ext a (b.setCell p u) := Below.setCell h hp u
theorem Ext.row {a b : World} (h : Ext a b) {g : Nat} (hg : a.heap.size ≤ g) (cs : Array Value) : Ext a (b.setRow g cs) :=
  ⟨h.os, h.tape, h.output, by simpa using h.size, fun k hk => (setRow_other b g k cs (by omega)).trans (h.block k hk)⟩
theorem Ext.gr {a b c : World} (h : Ext a b) {row : Option Nat} (hg : b.grownBy c row) (hr : ∀ k, row = some k → a.heap.size ≤ k) : Ext a c := Below.grown h hg h.size hr
theorem Ext.bc {W w1 : World} (hb : Ext W w1) : (∀ b o, b < W.heap.size → w1.cell? ⟨b, o, none⟩ = W.cell? ⟨b, o, none⟩) ∧ (∀ b o, b < W.heap.size → w1.frozen? ⟨b, o, none⟩ = W.frozen? ⟨b, o, none⟩) :=
  ⟨fun b o h => hb.cell (p := ⟨b, o, none⟩) h, fun b o h => hb.frozen (p := ⟨b, o, none⟩) h⟩
theorem Ext.heap {W w1 : World} (hb : Ext W w1) {g : Nat} {o : Obj} (h : W.heap[g]? = some o) : w1.heap[g]? = some o := (hb.block g (Array.getElem?_eq_some_iff.1 h).1).trans h
theorem Ext.cl {W w1 : World} (hb : Ext W w1) {a : Addr} {v : Value} (h : W.cell? a = some v) : w1.cell? a = some v := (hb.cell (World.block_lt_of_cell? W a h)).trans h
theorem cell_lt {w : World} {b o : Nat} {v : Value} (h : w.cell? ⟨b, o, none⟩ = some v) : b < w.heap.size := World.block_lt_of_cell? w ⟨b, o, none⟩ h
theorem blk_lt {w : World} {g : Nat} {o : Obj} (h : w.heap[g]? = some o) : g < w.heap.size := (Array.getElem?_eq_some_iff.1 h).1
theorem blk_cell {w : World} {g : Nat} {t : TypeId} {cs : Array Value} {fr : Nat × Nat} (h : w.heap[g]? = some (.cells cs t fr)) (i : Nat) : w.cell? ⟨g, i, none⟩ = cs[i]? := cell_of_row w g i cs t fr h
theorem blk_fr {w : World} {g : Nat} {t : TypeId} {cs : Array Value} (h : w.heap[g]? = some (.cells cs t (0, 0))) (i : Nat) : w.frozen? ⟨g, i, none⟩ = false := by simp [World.frozen?, h]

/-! ### values that stand in one cell -/
/-- A byte's, a word's number. Plain definitions: simp does not look behind them. -/
def b8 (x : UInt8) : Int := x.toNat
def w32 (x : UInt32) : Int := x.toNat
def q64 (x : UInt64) : Int := x.toNat
def vB (x : UInt8) : Value := .int .u8 (b8 x)
def vW (x : UInt32) : Value := .int .u32 (w32 x)
def vI (x : Int) : Value := .int .i64 x

/-! ### slices: what the cells from an address on read as -/
def RdS {α : Type} (enc : α → Value) (w : World) (A : Option Addr) (xs : List α) : Prop :=
  xs ≠ [] → ∃ b o, A = some ⟨b, o, none⟩ ∧ b < w.heap.size ∧ ∀ k, (h : k < xs.length) → w.cell? ⟨b, o + k, none⟩ = some (enc xs[k])
/-- A slice's value that reads as a list. -/
def SlV {α : Type} (enc : α → Value) (w : World) (v : Value) (xs : List α) : Prop :=
  ∃ A c, v = .slice A xs.length c ∧ xs.length ≤ c ∧ c ≤ maxLen ∧ RdS enc w A xs
section
variable {α : Type} {enc : α → Value} {w w' : World} {A : Option Addr} {xs : List α} {v : Value}
theorem RdS.ext (h : RdS enc w A xs) (hb : Ext w w') : RdS enc w' A xs := fun hn => by
  obtain ⟨b, o, e, hlt, hc⟩ := h hn
  exact ⟨b, o, e, Nat.lt_of_lt_of_le hlt hb.size, fun k hk => (hb.bc.1 b (o + k) hlt).trans (hc k hk)⟩
theorem SlV.ext (h : SlV enc w v xs) (hb : Ext w w') : SlV enc w' v xs := by
  obtain ⟨A, c, e, h1, h2, h3⟩ := h
  exact ⟨A, c, e, h1, h2, h3.ext hb⟩
theorem RdS.nil (w : World) (A : Option Addr) : RdS enc w A [] := fun h => absurd rfl h
theorem SlV.nil (w : World) : SlV enc w (.slice none 0 0) [] := ⟨none, 0, rfl, Nat.le_refl _, by unfold maxLen; omega, RdS.nil _ _⟩
theorem RdS.at_ (h : RdS enc w A xs) {k : Nat} (hk : k < xs.length) : ∃ b o, A = some ⟨b, o, none⟩ ∧ b < w.heap.size ∧ w.cell? ⟨b, o + k, none⟩ = some (enc xs[k]) := by
  obtain ⟨b, o, e, hlt, hc⟩ := h (fun e => by subst e; simp at hk)
  exact ⟨b, o, e, hlt, hc k hk⟩
theorem RdS.take (h : RdS enc w A xs) (n : Nat) : RdS enc w A (xs.take n) := fun hn => by
  obtain ⟨b, o, e, hlt, hc⟩ := h (fun e => hn (by simp [e]))
  exact ⟨b, o, e, hlt, fun k hk => by rw [hc k (by simp at hk; omega)]; simp⟩
theorem RdS.drop (h : RdS enc w A xs) {c n : Nat} (hc : xs.length ≤ c) : RdS enc w (if c = n then A else A.map (·.add n)) (xs.drop n) := fun hn => by
  obtain ⟨b, o, e, hlt, hcell⟩ := h (fun e => hn (by simp [e]))
  have hlen : n < xs.length := by
    rcases Nat.lt_or_ge n xs.length with h' | h'
    · exact h'
    · exact absurd (List.drop_of_length_le h') hn
  refine ⟨b, o + n, ?_, hlt, fun k hk => ?_⟩
  · rw [if_neg (by omega), e]; simp [Addr.add_lit]
  · rw [show o + n + k = o + (n + k) from by omega, hcell (n + k) (by simp at hk; omega)]; simp
end

/-! ### owned slices: at the head of a block of the call's own -/
def OwnS {α : Type} (enc : α → Value) (T : TypeId) (w : World) (base : Nat) (v : Value) (xs : List α) : Prop :=
  w.ownsRow base T 1 v xs.length (xs.map enc)
section
variable {α : Type} {enc : α → Value} {T : TypeId} {w w' : World} {base : Nat} {v : Value} {xs : List α}
theorem OwnS.sl (h : OwnS enc T w base v xs) : SlV enc w v xs := by
  obtain ⟨h1, h2⟩ := h
  rcases h2 with ⟨rfl, hn⟩ | ⟨g, cap, cur, rfl, hb, hg, hnc, hcm, hs, ht⟩
  · have : xs = [] := List.eq_nil_of_length_eq_zero hn
    subst this
    exact SlV.nil w
  · refine ⟨_, _, rfl, hnc, hcm, fun hn => ⟨g, 0, rfl, blk_lt hg, fun k hk => ?_⟩⟩
    rw [blk_cell hg, Nat.zero_add]
    have e : (cur.toList.take (xs.length * 1))[k]? = some (enc xs[k]) := by rw [ht]; simp [hk]
    rw [List.getElem?_take, if_pos (by omega)] at e
    simpa using e
theorem OwnS.nil (w : World) (base : Nat) : OwnS enc T w base (.slice none 0 0) [] := ⟨by simp, .inl ⟨rfl, rfl⟩⟩
theorem OwnS.ext (h : OwnS enc T w base v xs) (hb : Ext w w') : OwnS enc T w' base v xs := by
  refine ⟨h.1, ?_⟩
  rcases h.2 with h2 | ⟨g, cap, cur, hv, hg, hh, r⟩
  · exact .inl h2
  · exact .inr ⟨g, cap, cur, hv, hg, hb.heap hh, r⟩
theorem OwnS.lower (h : OwnS enc T w base v xs) {b : Nat} (hb : b ≤ base) : OwnS enc T w b v xs := by
  refine ⟨h.1, ?_⟩
  rcases h.2 with h2 | ⟨g, cap, cur, hv, hg, r⟩
  · exact .inl h2
  · exact .inr ⟨g, cap, cur, hv, by omega, r⟩
theorem OwnS.other (h : OwnS enc T w base v xs) {row : Option Nat} (hg : w.grownBy w' row) (hne : v.ownBlock = none ∨ v.ownBlock ≠ row) : OwnS enc T w' base v xs := World.ownsRow.kept h hg hne
theorem OwnS.ge (h : OwnS enc T w base v xs) : ∀ k, v.ownBlock = some k → base ≤ k := fun k hk => (World.ownsRow.lt h k hk).1
theorem OwnS.rd {A : Option Addr} {n c : Nat} (h : OwnS enc T w base (.slice A n c) xs) : RdS enc w A xs := by
  obtain ⟨A', c', e, _, _, h⟩ := h.sl
  injection e with e1; subst e1; exact h
/-- A new block that holds just these. -/
theorem OwnS.lit (w : World) (hb : base ≤ w.heap.size) (hm : xs.length ≤ maxLen) : OwnS enc T (w.alloc (.cells (xs.map enc).toArray T)) base (.slice (some ⟨w.heap.size, 0, none⟩) xs.length xs.length) xs :=
  ⟨by simp, .inr ⟨w.heap.size, xs.length, _, rfl, hb, heap_alloc_new w _, Nat.le_refl _, hm, by simp, by simp [List.take_of_length_le]⟩⟩
/-- Its form: nil, or the head of a block. -/
theorem OwnS.form (h : OwnS enc T w base v xs) : ∃ A c, v = .slice A xs.length c ∧ xs.length ≤ c ∧ c ≤ maxLen ∧ RdS enc w A xs := h.sl
theorem OwnS.at_ {A : Option Addr} {n c : Nat} (h : OwnS enc T w base (.slice A n c) xs) {k : Nat} (hk : k < xs.length) :
    ∃ g, A = some ⟨g, 0, none⟩ ∧ base ≤ g ∧ g < w.heap.size ∧ w.cell? ⟨g, k, none⟩ = some (enc xs[k]) ∧ w.frozen? ⟨g, k, none⟩ = false ∧ ∀ x, OwnS enc T (w.setCell ⟨g, k, none⟩ (enc x)) base (.slice A n c) (xs.set k x) := by
  obtain ⟨h1, h2⟩ := h
  rcases h2 with ⟨_, hn⟩ | ⟨g, cap, cur, hv, hb, hg, hnc, hcm, hs, ht⟩
  · omega
  · injection hv with hA hn hc
    subst hA hn hc
    refine ⟨g, rfl, hb, blk_lt hg, ?_, blk_fr hg k, fun x => ⟨by simp, .inr ⟨g, c, cur.setIfInBounds k (enc x), by simp, hb, heap_setCell_same _ _ _ _ _ _ hg, by simpa using hnc, hcm, by simpa using hs, ?_⟩⟩⟩
    · rw [blk_cell hg]
      have e : (cur.toList.take (xs.length * 1))[k]? = some (enc xs[k]) := by rw [ht]; simp [hk]
      rw [List.getElem?_take, if_pos (by omega)] at e
      simpa using e
    · simp only [List.length_set, Array.toList_setIfInBounds]
      rw [List.take_set, ht, List.map_set]
end

/-! ### append onto an owned slice -/
section
variable {P : Program} {α : Type}
theorem run_append_nilsrc (w : World) (base : Nat) (t ty e : TypeId) (i : TypeInfo) (size : Nat) (ht : P.underlying t = some (.slice e)) (hi : P.info? e = some i)
    (v : Value) (n : Nat) (xs : List Value) (hown : w.ownsRow base e size v n xs) (c : Nat) : (Builtin.append_ #[t, t] ty #[v, .slice none 0 c]).run P w = .ok v w := by
  rcases hown.2 with ⟨rfl, rfl⟩ | ⟨g, cap, cur, rfl, _, _, hnc, _⟩
  · simp [Builtin.append_, run_underlying ht, sizeOf, typeInfo, hi, Builtin.lenOf, Builtin.firstCells]
  · simp [Builtin.append_, run_underlying ht, sizeOf, typeInfo, hi, Builtin.lenOf, Builtin.firstCells, hnc, storeCells]

/-- 'append(own, src...)', cells of one kind, whatever the source: nil, empty or not. -/
theorem run_append_S {enc : α → Value} {ys : List α} (hone : ∀ x ∈ ys, (enc x).oneCell' = true) (w : World) (base : Nat) (t ty T : TypeId) (z : Value) (bytes : Nat) (ht : P.underlying t = some (.slice T))
    (hi : (P.info? T).map (fun i => (i.zero, i.size, i.bytes)) = some (some z, 1, bytes)) (hz : z.cells.size = 1)
    {v : Value} {xs : List α} (hown : OwnS enc T w base v xs) {A : Option Addr} {n c : Nat} (hn : n = ys.length) (hr : RdS enc w A ys)
    (h63 : xs.length + ys.length ≤ maxLen) (hbytes : (xs.length + ys.length) * bytes ≤ 140737488355328) (hbase : base ≤ w.heap.size) :
    ∃ v' w', (Builtin.append_ #[t, t] ty #[v, .slice A n c]).run P w = .ok v' w' ∧ OwnS enc T w' base v' (xs ++ ys) ∧ w.grownBy w' v.ownBlock ∧
      (v'.ownBlock = v.ownBlock ∨ v'.ownBlock = some w.heap.size) := by
  subst hn
  obtain ⟨i, hi, hz0, hsz, hby⟩ := info_parts hi
  rcases A with _ | ad
  · have hn : ys = [] := Classical.byContradiction fun h => by obtain ⟨_, _, e, _⟩ := hr h; cases e
    subst hn
    exact ⟨v, w, run_append_nilsrc w base t ty T i 1 ht hi v _ _ hown c, by simpa using hown, World.grownBy.refl w _, .inl rfl⟩
  · have hcells : ∀ j u, (ys.map enc)[j]? = some u → w.cell? (ad.add j) = some u := by
      intro j u hu
      have hj : j < ys.length := by have := (List.getElem?_eq_some_iff.1 hu).1; simpa using this
      obtain ⟨b, o, e, _, hc⟩ := hr.at_ hj
      injection e with e
      subst e
      rw [Addr.add_lit, hc]
      simpa [hj] using hu
    have h1 : ∀ u ∈ ys.map enc, u.oneCell' = true := fun u hu => by obtain ⟨x, hx, rfl⟩ := List.mem_map.1 hu; exact hone x hx
    obtain ⟨v', w', hrun, h2, h3, _, h5⟩ := run_append_own_at (P := P) w base t ty T i z 1 bytes ht hi hz0 hsz hby hz (by omega) v xs.length (xs.map enc) hown ad ys.length c (ys.map enc) (by simp) hcells h1 h63 hbytes hbase
    exact ⟨v', w', hrun, by unfold OwnS; simpa using h2, h3, h5⟩

theorem wp_append_S {enc : α → Value} {ys : List α} (hone : ∀ x ∈ ys, (enc x).oneCell' = true) {o : Oper} {a : Act} {w : World} {K : Act → World → Prop} {Q : Exit → Act → World → Prop} (s x : Operand) (t T : TypeId) (z : Value) (bytes : Nat) (base : Nat)
    (ho : o.op = .call { callee := .builtin .append, args := #[s, x], argTypes := #[t, t] }) (ht : P.underlying t = some (.slice T))
    (hi : (P.info? T).map (fun i => (i.zero, i.size, i.bytes)) = some (some z, 1, bytes)) (hz : z.cells.size = 1)
    {v : Value} {xs : List α} (hs : a.eval s = v) (hown : OwnS enc T w base v xs) {A : Option Addr} {n c : Nat} (hx : a.eval x = .slice A n c) (hn : n = ys.length) (hr : RdS enc w A ys)
    (h63 : xs.length + ys.length ≤ maxLen) (hbytes : (xs.length + ys.length) * bytes ≤ 140737488355328) (hbase : base ≤ w.heap.size)
    (h : ∀ v' w', OwnS enc T w' base v' (xs ++ ys) → w.grownBy w' v.ownBlock → (v'.ownBlock = v.ownBlock ∨ v'.ownBlock = some w.heap.size) → K (a.put o.dst v') w') : o.wp P a w K Q := by
  obtain ⟨v', w', hrun, h2, h3, h4⟩ := run_append_S (P := P) hone w base t o.type T z bytes ht hi hz hown (c := c) hn hr h63 hbytes hbase
  unfold Oper.wp execOp
  simp only [ho, resolve, invoke, builtin, Sem.run_bind, Sem.run_pure, Result.andThen_ok, List.map_toArray, List.map_cons, List.map_nil, hs, hx, hrun]
  exact h v' w' h2 h3 h4

theorem wpList_append_S {enc : α → Value} {ys : List α} (hone : ∀ x ∈ ys, (enc x).oneCell' = true) {ops : Array Oper} {rest : List Oper} {o : Oper} {a : Act} {w : World} {Q : Exit → Act → World → Prop} (hgd : o.guard = none) (s x : Operand) (t T : TypeId) (z : Value) (bytes : Nat) (base : Nat)
    (ho : o.op = .call { callee := .builtin .append, args := #[s, x], argTypes := #[t, t] }) (ht : P.underlying t = some (.slice T))
    (hi : (P.info? T).map (fun i => (i.zero, i.size, i.bytes)) = some (some z, 1, bytes)) (hz : z.cells.size = 1)
    {v : Value} {xs : List α} (hs : a.eval s = v) (hown : OwnS enc T w base v xs) {A : Option Addr} {n c : Nat} (hx : a.eval x = .slice A n c) (hn : n = ys.length) (hr : RdS enc w A ys)
    (h63 : xs.length + ys.length ≤ maxLen) (hbytes : (xs.length + ys.length) * bytes ≤ 140737488355328) (hbase : base ≤ w.heap.size)
    (h : ∀ v' w', OwnS enc T w' base v' (xs ++ ys) → w.grownBy w' v.ownBlock → (v'.ownBlock = v.ownBlock ∨ v'.ownBlock = some w.heap.size) → wpList P ops Q rest (a.put o.dst v') w') : wpList P ops Q (o :: rest) a w :=
  wpList_plain hgd fun _ hK => wp_append_S hone s x t T z bytes base ho ht hi hz hs hown hx hn hr h63 hbytes hbase fun v' w' h2 h3 h4 => hK _ _ (h v' w' h2 h3 h4)
end

theorem blk_al {w : World} {g : Nat} {o : Obj} (h : w.heap[g]? = some o) (o' : Obj) : (w.alloc o').heap[g]? = some o := (Below.heap_alloc w o' g (blk_lt h)).trans h
theorem al3 (w : World) (A B C : Obj) : (((w.alloc A).alloc B).alloc C).heap[w.heap.size + 1 + 1]? = some C := by
  have h := heap_alloc_new ((w.alloc A).alloc B) C
  simpa using h
theorem gb_ext {w w' : World} (h : Ext w w') (row : Option Nat) : w.grownBy w' row := ⟨h.os, h.tape, h.output, h.size, fun k hk _ => h.block k hk⟩
theorem gb_set {a b : World} {g : Nat} (h : a.grownBy b (some g)) (i : Nat) (u : Value) : a.grownBy (b.setCell ⟨g, i, none⟩ u) (some g) :=
  ⟨h.os, h.tape, h.output, by simpa using h.size, fun k hk hne => (Below.heap_setCell b ⟨g, i, none⟩ u k (fun e => hne (by simpa using e))).trans (h.block k hk hne)⟩
theorem gb_tr {a b c : World} {row : Option Nat} (h : a.grownBy b row) (k : b.grownBy c row) : a.grownBy c row :=
  ⟨k.os.trans h.os, k.tape.trans h.tape, k.output.trans h.output, Nat.le_trans h.size k.size, fun i hi hne => (k.block i (Nat.lt_of_lt_of_le hi h.size) hne).trans (h.block i hi hne)⟩
theorem gb_dr {a b : World} {row : Option Nat} (h : a.grownBy b row) : a.grownBy b.drew row := ⟨h.os, h.tape, h.output, h.size, h.block⟩
theorem gb_drN {a b : World} {row : Option Nat} (h : a.grownBy b row) (n : Nat) : a.grownBy (b.drewN n) row := ⟨h.os, h.tape, h.output, h.size, h.block⟩
theorem gb_al {a b : World} {row : Option Nat} (h : a.grownBy b row) (o : Obj) : a.grownBy (b.alloc o) row :=
  gb_tr h (World.grownBy_alloc b o row)
theorem blk_set {w : World} {g : Nat} {cs : Array Value} {t : TypeId} (h : w.heap[g]? = some (.cells cs t (0, 0))) (i : Nat) (v : Value) : (w.setCell ⟨g, i, none⟩ v).heap[g]? = some (.cells (cs.setIfInBounds i v) t (0, 0)) := heap_setCell_same w g i cs t v h

theorem RdS.gb {α : Type} {enc : α → Value} {w w' : World} {A : Option Addr} {xs : List α} {row : Option Nat} (h : RdS enc w A xs) (hg : w.grownBy w' row) (hne : ∀ a, A = some a → some a.block ≠ row) : RdS enc w' A xs := fun hn => by
  obtain ⟨b, o, e, hlt, hc⟩ := h hn
  exact ⟨b, o, e, Nat.lt_of_lt_of_le hlt hg.size, fun k hk => (World.cell?_of_block (a := ⟨b, o + k, none⟩) (hg.block b hlt (hne _ e))).trans (hc k hk)⟩

/-- Only the blocks of a list may have turned; the rest is as it was, or new. -/
structure Chg (S : List Nat) (w w' : World) : Prop where
  os : w'.os = w.os
  tape : w'.tape = w.tape
  output : w'.output = w.output
  size : w.heap.size ≤ w'.heap.size
  block : ∀ k, k < w.heap.size → k ∉ S → w'.heap[k]? = w.heap[k]?
section
variable {S S' : List Nat} {a b c : World}
theorem Chg.of_ext (h : Ext a b) (S : List Nat) : Chg S a b := ⟨h.os, h.tape, h.output, h.size, fun k hk _ => h.block k hk⟩
theorem Chg.of_gb {g : Nat} (h : a.grownBy b (some g)) : Chg [g] a b := ⟨h.os, h.tape, h.output, h.size, fun k hk hn => h.block k hk (fun e => hn (by injection e with e; simp [e]))⟩
theorem Chg.mono (h : Chg S a b) (hs : ∀ k ∈ S, k ∈ S') : Chg S' a b := ⟨h.os, h.tape, h.output, h.size, fun k hk hn => h.block k hk (fun e => hn (hs k e))⟩
theorem Chg.tr (h : Chg S a b) (k : Chg S b c) : Chg S a c :=
  ⟨k.os.trans h.os, k.tape.trans h.tape, k.output.trans h.output, Nat.le_trans h.size k.size, fun i hi hn => (k.block i (Nat.lt_of_lt_of_le hi h.size) hn).trans (h.block i hi hn)⟩
/-- What is new in a may have turned in whatever way since. -/
theorem Chg.tr' (h : Chg S a b) (k : Chg S' b c) (hs : ∀ g ∈ S', g ∈ S ∨ a.heap.size ≤ g) : Chg S a c :=
  ⟨k.os.trans h.os, k.tape.trans h.tape, k.output.trans h.output, Nat.le_trans h.size k.size, fun i hi hn => (k.block i (Nat.lt_of_lt_of_le hi h.size) (fun e => by
    rcases hs i e with h1 | h1
    · exact hn h1
    · omega)).trans (h.block i hi hn)⟩
theorem Chg.ext (h : Chg S a b) (hs : ∀ g ∈ S, a.heap.size ≤ g) : Ext a b := ⟨h.os, h.tape, h.output, h.size, fun k hk => h.block k hk (fun e => by have := hs k e; omega)⟩
theorem Chg.gb {g : Nat} (h : Chg S a b) (hs : ∀ k ∈ S, k = g ∨ a.heap.size ≤ k) : a.grownBy b (some g) := ⟨h.os, h.tape, h.output, h.size, fun k hk hn => h.block k hk (fun e => by
    rcases hs k e with h1 | h1
    · exact hn (by rw [h1])
    · omega)⟩
theorem Chg.set (h : Chg S a b) {g : Nat} (hg : g ∈ S ∨ a.heap.size ≤ g) (i : Nat) (u : Value) : Chg S a (b.setCell ⟨g, i, none⟩ u) :=
  h.tr' (Chg.of_gb (gb_set (gb_ext (Ext.refl b) _) i u)) (by simpa using hg)
theorem Chg.al (h : Chg S a b) (o : Obj) : Chg S a (b.alloc o) := h.tr (Chg.of_ext ((Ext.refl b).al o) S)
theorem Chg.dr (h : Chg S a b) : Chg S a b.drew := ⟨h.os, h.tape, h.output, h.size, h.block⟩
theorem Chg.drN (h : Chg S a b) (n : Nat) : Chg S a (b.drewN n) := ⟨h.os, h.tape, h.output, h.size, h.block⟩
theorem Chg.heap (h : Chg S a b) {g : Nat} {o : Obj} (hg : a.heap[g]? = some o) (hn : g ∉ S) : b.heap[g]? = some o := (h.block g (blk_lt hg) hn).trans hg
end

/-! ### make; filling place by place -/
theorem madeCells_one (v : Value) (n : Nat) : (madeCells #[v] n).toList = List.replicate n v := by
  apply List.ext_getElem
  · simp [madeCells]
  · intro i h1 h2
    simp [madeCells, Nat.mod_one]
theorem wpList_make_S {P : Program} {α : Type} {enc : α → Value} (d : α) (hd : (enc d).cells = #[enc d]) {ops : Array Oper} {rest : List Oper} {o : Oper} {a : Act} {w : World} {Q : Exit → Act → World → Prop}
    (hg : o.guard = none) (l c : Operand) (t T : TypeId) (bytes : Nat) (base : Nat) (hop : o.op = Op.makeSlice t l c) (ht : P.underlying t = some (.slice T))
    (hi : (P.info? T).map (fun i => (i.zero, i.size, i.bytes)) = some (some (enc d), 1, bytes))
    (n : Nat) {kl kc : IntKind} {L C : Int} (hl : a.eval l = .int kl L) (hc : a.eval c = .int kc C) (hL : L = (n : Int)) (hC : C = (n : Int)) (b2 : bytes * n ≤ 281474976710656) (b3 : n ≤ maxLen) (b4 : base ≤ w.heap.size)
    (hK : ∀ w', OwnS enc T w' base (.slice (some ⟨w.heap.size, 0, none⟩) n n) (List.replicate n d) → Ext w w' → wpList P ops Q rest (a.put o.dst (.slice (some ⟨w.heap.size, 0, none⟩) n n)) w') :
    wpList P ops Q (o :: rest) a w := by
  obtain ⟨i, hi, hz0, hsz, hby⟩ := info_parts hi
  refine wpList_make_full w hg l c t hop base T i (enc d) 1 ht hi hz0 hsz kl kc L C n hl hc hL hC (by rw [hby]; exact b2) b3 b4 ?_
  intro w' ho hg'
  refine hK w' ?_ ⟨hg'.os, hg'.tape, hg'.output, hg'.size, fun k hk => hg'.block k hk (by simp)⟩
  unfold OwnS
  rw [hd, Nat.mul_one, madeCells_one] at ho
  simpa using ho
def fillTo {α : Type} (ys : List α) (d : α) (k : Nat) : List α := ys.take k ++ List.replicate (ys.length - k) d
section
variable {α : Type} (ys : List α) (d : α)
theorem fillTo_length (k : Nat) : (fillTo ys d k).length = ys.length := by simp [fillTo]; omega
theorem fillTo_zero : fillTo ys d 0 = List.replicate ys.length d := by simp [fillTo]
theorem fillTo_all : fillTo ys d ys.length = ys := by simp [fillTo]
theorem fillTo_set (k : Nat) (h : k < ys.length) : (fillTo ys d k).set k ys[k] = fillTo ys d (k + 1) := by
  apply List.ext_getElem
  · simp [fillTo]; omega
  · intro i h1 h2
    simp only [List.length_set, fillTo_length] at h1
    simp only [fillTo, List.getElem_set, List.getElem_append, List.length_take, List.getElem_take, List.getElem_replicate]
    by_cases e : k = i
    · subst e; simp [show k < min (k + 1) ys.length by omega]
    · by_cases h3 : i < k
      · simp [e, show i < min k ys.length by omega, show i < min (k + 1) ys.length by omega]
      · simp [e, show ¬ i < min k ys.length by omega, show ¬ i < min (k + 1) ys.length by omega]
end

/-- A call that leaves the world alone, inside a region that draws its order. -/
theorem quiet_l {P : Program} {f : FuncId} {args : Array Value} {w : World} {v : Value}
    (h : ∀ w, Calls P f args w fun e w' => e = .returned v ∧ w = w') (a n : Nat) : Calls P f args (w.drewN (a + n)) fun e w'' => e = .returned v ∧ ∃ m, w'' = w.drewN (a + m) :=
  (h _).mono fun _ _ ⟨he, hm⟩ => ⟨he, n, hm.symm⟩
theorem quiet_l0 {P : Program} {f : FuncId} {args : Array Value} {w : World} {v : Value}
    (h : ∀ w, Calls P f args w fun e w' => e = .returned v ∧ w = w') (n : Nat) : Calls P f args (w.drewN n) fun e w'' => e = .returned v ∧ ∃ m, w'' = w.drewN m :=
  (h _).mono fun _ _ ⟨he, hm⟩ => ⟨he, n, hm.symm⟩

/-! ### a whole array or struct stored into a block: the world behind it by what is known of it -/
theorem grownBy_setRow (w : World) (g : Nat) (cs : Array Value) : w.grownBy (w.setRow g cs) (some g) :=
  ⟨rfl, rfl, rfl, by simp, fun k _ hk => setRow_other w g k cs (fun e => hk (by rw [e]))⟩
theorem wpList_store_blk {P : Program} {ops : Array Oper} {rest : List Oper} {o : Oper} {a : Act} {w : World} {Q : Exit → Act → World → Prop} (hgd : o.guard = none) (hdst : o.dst = none) (ty : TypeId) (x y : Operand) (ho : o.op = .store ty x y)
    (g : Nat) (cells : Array Value) (hx : a.eval x = .pointer (some ⟨g, 0, none⟩)) (hy : a.eval y = .agg cells)
    (t : TypeId) (old : Array Value) (hg : w.heap[g]? = some (.cells old t (0, 0))) (hi : (P.info? ty).map (·.size) = some cells.size)
    (hold : old.size = cells.size) (h1 : cells.all (·.oneCell') = true)
    (h : ∀ w', w'.heap[g]? = some (.cells cells t (0, 0)) → w.grownBy w' (some g) → wpList P ops Q rest a w') : wpList P ops Q (o :: rest) a w :=
  wpList_store_row hgd ty x y ho g cells hx hy t old hg hi hold h1 (by rw [hdst]; exact h _ (setRow_heap _ _ _ _ _ _ hg) (grownBy_setRow _ _ _))

/-! ### append where there is no room: a new block, whatever came in -/
theorem run_append_grow_S {P : Program} {α : Type} {enc : α → Value} {xs ys : List α} (hone : ∀ x ∈ ys, (enc x).oneCell' = true) (w : World) (t ty T : TypeId) (z : Value) (bytes : Nat) (ht : P.underlying t = some (.slice T))
    (hi : (P.info? T).map (fun i => (i.zero, i.size, i.bytes)) = some (some z, 1, bytes)) (hz : z.cells.size = 1)
    {A : Option Addr} {n c : Nat} (hn : n = xs.length) (hr : RdS enc w A xs) {A' : Option Addr} {n' c' : Nat} (hn' : n' = ys.length) (hr' : RdS enc w A' ys)
    (hA : A = none → c = 0) (hcap : c < xs.length + ys.length) (hle : xs.length ≤ c) (h63 : xs.length + ys.length ≤ maxLen) (hbytes : (xs.length + ys.length) * bytes ≤ 140737488355328) :
    ∃ v' w', (Builtin.append_ #[t, t] ty #[.slice A n c, .slice A' n' c']).run P w = .ok v' w' ∧ OwnS enc T w' w.heap.size v' (xs ++ ys) ∧ Ext w w' := by
  subst hn hn'
  obtain ⟨i, hi, hz0, hsz, hby⟩ := info_parts hi
  have hcells : ∀ (A : Option Addr) (l : List α), RdS enc w A l → ∀ ad, A = some ad → ∀ j u, (l.map enc)[j]? = some u → w.cell? (ad.add j) = some u := by
    intro A l hl ad had j u hu
    have hj : j < l.length := by have := (List.getElem?_eq_some_iff.1 hu).1; simpa using this
    obtain ⟨b, o, e, _, hc⟩ := hl.at_ hj
    rw [had] at e
    injection e with e
    subst e
    rw [Addr.add_lit, hc]
    simpa [hj] using hu
  have h1 : ∀ u ∈ ys.map enc, u.oneCell' = true := fun u hu => by obtain ⟨x, hx, rfl⟩ := List.mem_map.1 hu; exact hone x hx
  have hys : ys ≠ [] := fun e => by subst e; simp at hcap; omega
  obtain ⟨b', o', eA', _, _⟩ := hr' hys
  subst eA'
  have hnews := hcells _ ys hr' _ rfl
  have hlen : (xs ++ ys).length = xs.length + ys.length := by simp
  have hm := grownCap_le_maxLen
  have fin : ∀ (old : Nat), OwnS enc T (w.drew.alloc (.cells ((xs.map enc).toArray ++ (ys.map enc).toArray ++ Builtin.zeroCells z.cells (grownCap w (xs.length + ys.length) old T - (xs.length + ys.length))) T)) w.heap.size
      (.slice (some ⟨w.heap.size, 0, none⟩) (xs.length + ys.length) (grownCap w (xs.length + ys.length) old T)) (xs ++ ys) := by
    intro old
    have hge := grownCap_ge w (xs.length + ys.length) old T
    refine ⟨by simp, .inr ⟨w.heap.size, _, _, by rw [hlen], Nat.le_refl _, heap_alloc_new w.drew _, by rw [hlen]; exact hge, hm w _ old T h63, ?_, ?_⟩⟩
    · simp only [Array.size_append, List.size_toArray, List.length_map, size_zeroCells, hz]; omega
    · simp only [Array.toList_append, List.append_assoc, Nat.mul_one, hlen]
      rw [← List.append_assoc, ← List.map_append, List.take_left' (by simp)]
  have hex : ∀ o, Ext w (w.drew.alloc o) := fun o => ((Ext.refl w).dr).al o
  rcases A with _ | ad
  · have hx : xs = [] := Classical.byContradiction fun h => by obtain ⟨_, _, e, _⟩ := hr h; cases e
    subst hx
    have hc0 := hA rfl
    · subst hc0
      have hrun := run_append_nil (P := P) w t ty T i z ht hi hz0 ⟨b', o', none⟩ ys.length c' (ys.map enc) (by rw [hsz]; simp) hnews (by simp at hcap; omega) (by simp only [maxLen] at h63; simp at h63; omega) (by rw [hby]; simp at hbytes; omega)
      have hf := fin 0
      simp only [List.length_nil, Nat.zero_add, List.map_nil, List.nil_append] at hf ⊢
      exact ⟨_, _, hrun, by simpa using hf, hex _⟩
  · have hold := hcells _ xs hr ad rfl
    have hrun := run_append_grow (P := P) w t ty T i z ht hi hz0 ad xs.length c (xs.map enc) (by rw [hsz]; simp) hold ⟨b', o', none⟩ ys.length c' (ys.map enc) (by rw [hsz]; simp) hnews (by omega) (by simp only [maxLen] at h63; omega) (by rw [hby]; exact growslice_fits (by omega) hbytes)
    exact ⟨_, _, hrun, fin c, hex _⟩
theorem wpList_append_grow_S {P : Program} {α : Type} {enc : α → Value} {xs ys : List α} (hone : ∀ x ∈ ys, (enc x).oneCell' = true) {ops : Array Oper} {rest : List Oper} {o : Oper} {a : Act} {w : World} {Q : Exit → Act → World → Prop} (hgd : o.guard = none) (s x : Operand) (t T : TypeId) (z : Value) (bytes : Nat)
    (ho : o.op = .call { callee := .builtin .append, args := #[s, x], argTypes := #[t, t] }) (ht : P.underlying t = some (.slice T))
    (hi : (P.info? T).map (fun i => (i.zero, i.size, i.bytes)) = some (some z, 1, bytes)) (hz : z.cells.size = 1)
    {A : Option Addr} {n c : Nat} (hs : a.eval s = .slice A n c) (hn : n = xs.length) (hr : RdS enc w A xs) {A' : Option Addr} {n' c' : Nat} (hx : a.eval x = .slice A' n' c') (hn' : n' = ys.length) (hr' : RdS enc w A' ys)
    (hA : A = none → c = 0) (hcap : c < xs.length + ys.length) (hle : xs.length ≤ c) (h63 : xs.length + ys.length ≤ maxLen) (hbytes : (xs.length + ys.length) * bytes ≤ 140737488355328)
    (h : ∀ v' w', OwnS enc T w' w.heap.size v' (xs ++ ys) → Ext w w' → wpList P ops Q rest (a.put o.dst v') w') : wpList P ops Q (o :: rest) a w := by
  refine wpList_plain hgd fun K hK => ?_
  obtain ⟨v', w', hrun, h2, h3⟩ := run_append_grow_S (P := P) hone w t o.type T z bytes ht hi hz hn hr hn' hr' hA hcap hle h63 hbytes (c' := c')
  unfold Oper.wp execOp
  simp only [ho, resolve, invoke, builtin, Sem.run_bind, Sem.run_pure, Result.andThen_ok, List.map_toArray, List.map_cons, List.map_nil, hs, hx, hrun]
  exact hK _ _ (h v' w' h2 h3)

/-! ### bytes and words as numbers of their own kinds -/
theorem u8_r (x : UInt8) : 0 ≤ b8 x ∧ b8 x < 256 := by have := x.toNat_lt; unfold b8; omega
theorem u32_r (x : UInt32) : 0 ≤ w32 x ∧ w32 x < 4294967296 := by have := x.toNat_lt; unfold w32; omega
theorem u64_r (x : UInt64) : 0 ≤ q64 x ∧ q64 x < 18446744073709551616 := by have := x.toNat_lt; unfold q64; omega
theorem u8_inj {a b : UInt8} : b8 a = b8 b ↔ a = b := by
  unfold b8; rw [Int.natCast_inj]; exact UInt8.toNat_inj
theorem u32_inj {a b : UInt32} : w32 a = w32 b ↔ a = b := by
  unfold w32; rw [Int.natCast_inj]; exact UInt32.toNat_inj
theorem u64_inj {a b : UInt64} : q64 a = q64 b ↔ a = b := by
  unfold q64; rw [Int.natCast_inj]; exact UInt64.toNat_inj
theorem u8_beq (a b : UInt8) : (b8 a == b8 b) = (a == b) := by rw [Bool.eq_iff_iff]; simp [u8_inj]
theorem u32_beq (a b : UInt32) : (w32 a == w32 b) = (a == b) := by rw [Bool.eq_iff_iff]; simp [u32_inj]
theorem ofInt8 (x : UInt8) : (BitVec.ofInt 8 (b8 x)).toNat = x.toNat := by
  unfold b8; rw [BitVec.ofInt_natCast, BitVec.toNat_ofNat]; exact Nat.mod_eq_of_lt x.toNat_lt
theorem ofInt32 (x : UInt32) : (BitVec.ofInt 32 (w32 x)).toNat = x.toNat := by
  unfold w32; rw [BitVec.ofInt_natCast, BitVec.toNat_ofNat]; exact Nat.mod_eq_of_lt x.toNat_lt
theorem ofInt64 (x : UInt64) : (BitVec.ofInt 64 (q64 x)).toNat = x.toNat := by
  unfold q64; rw [BitVec.ofInt_natCast, BitVec.toNat_ofNat]; exact Nat.mod_eq_of_lt x.toNat_lt
theorem b_xor (a b : UInt8) : bits .xor .u8 (b8 a) (b8 b) = b8 (a ^^^ b) := by
  have hx := (a ^^^ b).toNat_lt
  show IntKind.u8.wrap ((BitVec.ofInt 8 (b8 a) ^^^ BitVec.ofInt 8 (b8 b)).toNat : Int) = _
  rw [BitVec.toNat_xor, ofInt8, ofInt8, ← UInt8.toNat_xor, IntKind.wrap_u8]
  unfold b8; omega
theorem b_and (a b : UInt8) : bits .and .u8 (b8 a) (b8 b) = b8 (a &&& b) := by
  have hx := (a &&& b).toNat_lt
  show IntKind.u8.wrap ((BitVec.ofInt 8 (b8 a) &&& BitVec.ofInt 8 (b8 b)).toNat : Int) = _
  rw [BitVec.toNat_and, ofInt8, ofInt8, ← UInt8.toNat_and, IntKind.wrap_u8]
  unfold b8; omega
theorem w_xor (a b : UInt32) : bits .xor .u32 (w32 a) (w32 b) = w32 (a ^^^ b) := by
  have hx := (a ^^^ b).toNat_lt
  show IntKind.u32.wrap ((BitVec.ofInt 32 (w32 a) ^^^ BitVec.ofInt 32 (w32 b)).toNat : Int) = _
  rw [BitVec.toNat_xor, ofInt32, ofInt32, ← UInt32.toNat_xor, IntKind.wrap_u32]
  unfold w32; omega
theorem w_and (a b : UInt32) : bits .and .u32 (w32 a) (w32 b) = w32 (a &&& b) := by
  have hx := (a &&& b).toNat_lt
  show IntKind.u32.wrap ((BitVec.ofInt 32 (w32 a) &&& BitVec.ofInt 32 (w32 b)).toNat : Int) = _
  rw [BitVec.toNat_and, ofInt32, ofInt32, ← UInt32.toNat_and, IntKind.wrap_u32]
  unfold w32; omega
theorem u32_nat (k : Nat) (hk : k < 4294967296) : w32 (UInt32.ofNat k) = (k : Int) := by
  unfold w32; rw [UInt32.toNat_ofNat']; omega
theorem u8_nat (k : Nat) (hk : k < 256) : b8 (UInt8.ofNat k) = (k : Int) := by
  unfold b8; rw [UInt8.toNat_ofNat']; omega
theorem w_of8 (x : UInt8) : b8 x = w32 x.toUInt32 := by unfold b8 w32; simp
theorem ret_int {k : IntKind} {a b : Int} (h : a = b) : Ending.returned (.int k a) = .returned (.int k b) := by rw [h]
end Go.Proofs.Ytmcgcfbdofpfdaa
