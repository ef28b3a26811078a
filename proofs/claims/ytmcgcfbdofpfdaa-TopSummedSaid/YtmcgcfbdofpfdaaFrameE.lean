/- What frame.open's walk needs: a store into a block, bytes as a string, numbers read back, the reader's state beside a head that is being filled. -/
import Derived.Test.YtmcgcfbdofpfdaaFrameD
import Derived.Deep.MidRow
namespace Go.Proofs.Ytmcgcfbdofpfdaa
open Go.RowKit
def setArr (cs : Array Value) (o : Nat) : List Value → Array Value
  | [] => cs
  | v :: vs => setArr (cs.setIfInBounds o v) (o + 1) vs
theorem setArr_size (cs : Array Value) (o : Nat) (vs : List Value) : (setArr cs o vs).size = cs.size := by
  induction vs generalizing cs o with
  | nil => rfl
  | cons v vs ih => rw [setArr, ih]; simp
theorem heap_setCells {g : Nat} {t : TypeId} : ∀ (vs : List Value) (o : Nat) (cs : Array Value) (w : World), w.heap[g]? = some (.cells cs t (0, 0)) →
    (w.setCells g o vs).heap[g]? = some (.cells (setArr cs o vs) t (0, 0)) ∧ w.grownBy (w.setCells g o vs) (some g)
  | [], o, cs, w, h => ⟨h, gb_ext (Ext.refl w) _⟩
  | v :: vs, o, cs, w, h => by
    have h1 := blk_set h o v
    obtain ⟨h2, h3⟩ := heap_setCells vs (o + 1) _ _ h1
    exact ⟨h2, gb_tr (gb_set (gb_ext (Ext.refl w) _) o v) h3⟩
theorem wpList_store_at {P : Program} {ops : Array Oper} {rest : List Oper} {o : Oper} {a : Act} {w : World} {Q : Exit → Act → World → Prop} (hgd : o.guard = none) (hdst : o.dst = none) (ty : TypeId) (x y : Operand) (ho : o.op = .store ty x y)
    (g at_ : Nat) (cells : Array Value) (hx : a.eval x = .pointer (some ⟨g, at_, none⟩)) (hy : a.eval y = .agg cells)
    (t : TypeId) (old new : Array Value) (hg : w.heap[g]? = some (.cells old t (0, 0))) (hi : (P.info? ty).map (·.size) = some cells.size)
    (hold : at_ + cells.size ≤ old.size) (h1 : cells.all (·.oneCell') = true) (hnew : setArr old at_ cells.toList = new)
    (h : ∀ w', w'.heap[g]? = some (.cells new t (0, 0)) → w.grownBy w' (some g) → wpList P ops Q rest a w') : wpList P ops Q (o :: rest) a w := by
  obtain ⟨h2, h3⟩ := heap_setCells cells.toList at_ old w hg
  refine wpList_store_mid hgd ty x y ho g at_ cells hx hy (fun j hj => ⟨?_, blk_fr hg _⟩) hi h1 (by rw [hdst]; exact h _ (by rw [← hnew]; exact h2) h3)
  rw [blk_cell hg, Array.getElem?_eq_getElem (by omega)]; rfl
theorem wpList_store_cell {P : Program} {ops : Array Oper} {rest : List Oper} {o : Oper} {a : Act} {w : World} {Q : Exit → Act → World → Prop} (hgd : o.guard = none) (hdst : o.dst = none) (ty : TypeId) (x y : Operand) (ho : o.op = .store ty x y)
    (g at_ : Nat) (u : Value) (hx : a.eval x = .pointer (some ⟨g, at_, none⟩)) (hy : a.eval y = u) (h1 : u.oneCell' = true)
    (t : TypeId) (old : Array Value) (hg : w.heap[g]? = some (.cells old t (0, 0))) (hi : (P.info? ty).map (·.size) = some 1) (hold : at_ < old.size)
    (h : wpList P ops Q rest a (w.setCell ⟨g, at_, none⟩ u)) : wpList P ops Q (o :: rest) a w := by
  refine wpList_plain hgd fun K hK => ?_
  have hrun := run_storeCells_cells (P := P) g at_ [u] 0 w (fun j hj => by
      obtain rfl : j = 0 := by simpa using hj
      rw [blk_cell hg]; simp [hold]) (fun j hj => blk_fr hg _) (fun v hv => by simp at hv; subst hv; exact h1)
  have hc : u.cells = #[u] := by cases u <;> first | rfl | cases h1
  have hst : (storeVar ty ⟨g, at_, none⟩ u).run P w = .ok () (w.setCell ⟨g, at_, none⟩ u) := by
    cases hq : P.info? ty with
    | none => simp [hq] at hi
    | some i =>
      have hs : i.size = 1 := by simpa [hq] using hi
      simp only [Nat.add_zero] at hrun
      simp [storeVar, sizeOf, typeInfo, hq, hc, hs, hrun, World.setCells]
  unfold Oper.wp execOp
  simp only [ho, hx, hy, Instr.storeAt, Instr.sureAddr, Sem.run_bind, Sem.run_pure, Result.andThen_ok, hst]
  exact hK _ _ (by rw [hdst]; exact h)
theorem wpList_string_S {P : Program} {ops : Array Oper} {rest : List Oper} {o : Oper} {a : Act} {w : World} {Q : Exit → Act → World → Prop} (hgd : o.guard = none) (src dst T : TypeId) (x : Operand) (ho : o.op = .convert src dst x)
    (hs : P.underlying src = some (.slice T)) (hd : P.underlying dst = some .string) (he : P.underlying T = some (.int .u8)) {A : Option Addr} {n c : Nat} (s : ByteArray) (hx : a.eval x = .slice A n c)
    (hn : n = s.data.toList.length) (h0 : 0 < n) (hr : RdS vB w A s.data.toList)
    (h : wpList P ops Q rest (a.put o.dst (.string s)) w) : wpList P ops Q (o :: rest) a w := by
  refine wpList_plain hgd fun K hK => ?_
  subst hn
  obtain ⟨b, off, rfl, _, _⟩ := hr.at_ h0
  have hrun := run_convert_bytes_back (P := P) w src dst T ⟨b, off, none⟩ c s.data.toList hs he hd (fun j hj => by
    obtain ⟨b', o', e, _, hc⟩ := hr.at_ hj
    injection e with e
    injection e with e1 e2
    subst e1 e2
    rw [Addr.add_mid, hc]; rfl)
  have e : (ByteArray.mk s.data.toList.toArray) = s := by cases s; simp
  rw [e] at hrun
  unfold Oper.wp execOp
  simp only [ho, hx, Sem.run_bind, Sem.run_pure, Result.andThen_ok, hrun]
  exact hK _ _ h
theorem num4_le4 (x : UInt32) : num4 (le4 x) = x := by
  have h := x.toNat_lt
  have e : accN (le4 x) 4 = x.toNat := by
    simp [accN, le4, by8, UInt8.toNat_ofNat']
    omega
  unfold num4
  rw [e]
  exact UInt32.ofNat_toNat
theorem num1_of (x : UInt8) : num1 [x] = x := by
  have h := x.toNat_lt
  have e : accN [x] 1 = x.toNat := by simp [accN]
  unfold num1
  rw [e]
  exact UInt8.ofNat_toNat
theorem t8_c (x : Nat) (hx : x < 256) (g : Nat) (v : Value) (bs : List UInt8) (k : Nat) (w : World) (h : ReaderAt w g v bs k) (he : (bs.drop k).take 1 = [UInt8.ofNat x]) :
    Calls Try.prog 94 #[.pointer (some ⟨g, 0, none⟩)] w fun e w' => e = .returned (.int .u8 (x : Int)) ∧ ReaderAt w' g v bs (k + 1) ∧ w.grownBy w' (some g) := by
  have hl := congrArg List.length he
  simp at hl
  have := take8_c g v bs k w h (by omega)
  rwa [he, num1_of, u8_nat x hx] at this
theorem t32_c (x : UInt32) (g : Nat) (v : Value) (bs : List UInt8) (k : Nat) (w : World) (h : ReaderAt w g v bs k) (he : (bs.drop k).take 4 = le4 x) :
    Calls Try.prog 95 #[.pointer (some ⟨g, 0, none⟩)] w fun e w' => e = .returned (.int .u32 (w32 x)) ∧ ReaderAt w' g v bs (k + 4) ∧ w.grownBy w' (some g) := by
  have hl := congrArg List.length he
  simp [le4_len] at hl
  have := take32_c g v bs k w h (by omega)
  rwa [he, num4_le4] at this
theorem t32n_c (x : Nat) (hx : x < 4294967296) (g : Nat) (v : Value) (bs : List UInt8) (k : Nat) (w : World) (h : ReaderAt w g v bs k) (he : (bs.drop k).take 4 = le4 (UInt32.ofNat x)) :
    Calls Try.prog 95 #[.pointer (some ⟨g, 0, none⟩)] w fun e w' => e = .returned (.int .u32 (x : Int)) ∧ ReaderAt w' g v bs (k + 4) ∧ w.grownBy w' (some g) := by
  have := t32_c _ g v bs k w h he
  rwa [u32_nat x hx] at this
/-- A reader and a block of cells beside it. -/
structure Fills (W0 w : World) (g g6 : Nat) (v : Value) (bs : List UInt8) (k : Nat) (cs : Array Value) : Prop where
  rd : ReaderAt w g v bs k
  blk : w.heap[g6]? = some (.cells cs 94 (0, 0))
  ext : Ext W0 w
  ne : g ≠ g6
  lo : W0.heap.size ≤ g
  lo6 : W0.heap.size ≤ g6
section
variable {W0 w w' : World} {g g6 : Nat} {v : Value} {bs : List UInt8} {k : Nat} {cs : Array Value}
theorem Fills.take {n : Nat} (h : Fills W0 w g g6 v bs k cs) (hr : ReaderAt w' g v bs n) (hg : w.grownBy w' (some g)) : Fills W0 w' g g6 v bs n cs :=
  ⟨hr, (hg.block g6 (blk_lt h.blk) (fun e => h.ne (by injection e with e; exact e.symm))).trans h.blk, h.ext.gr hg (fun k hk => by injection hk with e; exact e ▸ h.lo), h.ne, h.lo, h.lo6⟩
theorem Fills.put {cs' : Array Value} (h : Fills W0 w g g6 v bs k cs) (hb : w'.heap[g6]? = some (.cells cs' 94 (0, 0))) (hg : w.grownBy w' (some g6)) : Fills W0 w' g g6 v bs k cs' := by
  obtain ⟨hb1, ho⟩ := h.rd
  have hn := own_ne ho h.blk (by decide)
  exact ⟨⟨(hg.block g (blk_lt hb1) (fun e => h.ne (by injection e))).trans hb1, ho.other hg (.inr hn)⟩, hb, h.ext.gr hg (fun k hk => by injection hk with e; exact e ▸ h.lo6), h.ne, h.lo, h.lo6⟩
theorem Fills.set (h : Fills W0 w g g6 v bs k cs) (i : Nat) (u : Value) : Fills W0 (w.setCell ⟨g6, i, none⟩ u) g g6 v bs k (cs.setIfInBounds i u) :=
  h.put (blk_set h.blk i u) (gb_set (gb_ext (Ext.refl w) _) i u)
end
end Go.Proofs.Ytmcgcfbdofpfdaa
