/- What stripe.Split's walk needs: a row of shards in one block; rows that grow by append; bytes dealt out. -/
import Derived.Test.YtmcgcfbdofpfdaaCodeE
namespace Go.Proofs.Ytmcgcfbdofpfdaa
open Go.RowKit
theorem setArr_get (L : List Value) (o : Nat) (cs : Array Value) (p : Nat) (h : o + L.length ≤ cs.size) : (setArr cs o L)[p]? = if o ≤ p ∧ p < o + L.length then L[p - o]? else cs[p]? := by
  induction L generalizing cs o with
  | nil => rw [setArr, if_neg (by simp only [List.length_nil]; omega)]
  | cons v L ih =>
    rw [setArr, ih (o + 1) _ (by simp; simp at h; omega)]
    simp only [List.length_cons] at h ⊢
    by_cases h1 : p = o
    · subst h1
      rw [if_neg (by omega), if_pos (by omega), Nat.sub_self, Array.getElem?_setIfInBounds]
      simp; omega
    · by_cases h2 : o + 1 ≤ p ∧ p < o + 1 + L.length
      · rw [if_pos h2, if_pos (by omega)]
        obtain ⟨d, rfl⟩ : ∃ d, p = o + 1 + d := ⟨p - (o + 1), by omega⟩
        simp [show o + 1 + d - o = d + 1 from by omega]
      · rw [if_neg h2, if_neg (by omega), Array.getElem?_setIfInBounds]
        simp [Ne.symm h1]
/-- A block of shards, seventeen cells each. -/
def OutB (w : World) (g N : Nat) (vals : Nat → List Value) : Prop :=
  (∀ i, (vals i).length = 17) ∧ ∃ cs : Array Value, w.heap[g]? = some (.cells cs 96 (0, 0)) ∧ cs.size = N * 17 ∧ ∀ i, i < N → ∀ j, j < 17 → cs[i * 17 + j]? = (vals i)[j]?
def upd {α : Type} (f : Nat → α) (k : Nat) (x : α) : Nat → α := fun i => if i = k then x else f i
theorem OutB.keep {w w' : World} {g N : Nat} {vals : Nat → List Value} (h : OutB w g N vals) (hb : w'.heap[g]? = w.heap[g]?) : OutB w' g N vals := by
  obtain ⟨h0, cs, h1, h2, h3⟩ := h
  exact ⟨h0, cs, hb.trans h1, h2, h3⟩
theorem OutB.lt {w : World} {g N : Nat} {vals : Nat → List Value} (h : OutB w g N vals) : g < w.heap.size := by
  obtain ⟨h0, cs, h1, h2, h3⟩ := h
  exact blk_lt h1
theorem OutB.ext {w w' : World} {g N : Nat} {vals : Nat → List Value} (h : OutB w g N vals) (hE : Ext w w') : OutB w' g N vals := h.keep (hE.block g h.lt)
theorem OutB.cell {w : World} {g N : Nat} {vals : Nat → List Value} (h : OutB w g N vals) {k j : Nat} (hk : k < N) (hj : j < 17) : w.cell? ⟨g, k * 17 + j, none⟩ = (vals k)[j]? ∧ w.frozen? ⟨g, k * 17 + j, none⟩ = false := by
  obtain ⟨h0, cs, h1, h2, h3⟩ := h
  exact ⟨by rw [blk_cell h1, h3 k hk j hj], blk_fr h1 _⟩
theorem OutB.set {w : World} {g N : Nat} {vals : Nat → List Value} (h : OutB w g N vals) {k j : Nat} (hk : k < N) (hj : j < 17) (v : Value) : OutB (w.setCell ⟨g, k * 17 + j, none⟩ v) g N (upd vals k ((vals k).set j v)) := by
  obtain ⟨h0, cs, h1, h2, h3⟩ := h
  refine ⟨fun i => by unfold upd; split <;> simp [h0], _, blk_set h1 _ v, by simp [h2], fun i hi j' hj' => ?_⟩
  rw [Array.getElem?_setIfInBounds]
  unfold upd
  by_cases e : i = k
  · subst e
    rw [if_pos rfl, List.getElem?_set]
    by_cases e2 : j = j'
    · subst e2
      rw [if_pos rfl, if_pos rfl, if_pos (by rw [h2]; omega), if_pos (by rw [h0]; exact hj)]
    · rw [if_neg (by omega), if_neg e2, h3 i hi j' hj']
  · rw [if_neg (by omega), if_neg e, h3 i hi j' hj']
theorem OutB.put {w w' : World} {g N : Nat} {vals : Nat → List Value} (h : OutB w g N vals) {k : Nat} (hk : k < N) (L : List Value) (hL : L.length = 16) {old : Array Value} (ho : w.heap[g]? = some (.cells old 96 (0, 0))) (hw : w'.heap[g]? = some (.cells (setArr old (k * 17) L) 96 (0, 0))) :
    OutB w' g N (upd vals k (L ++ (vals k).drop 16)) := by
  obtain ⟨h0, cs, h1, h2, h3⟩ := h
  rw [ho] at h1
  injection h1 with h1
  injection h1 with h1
  subst h1
  refine ⟨fun i => by unfold upd; split <;> simp [h0, hL], _, hw, by rw [setArr_size, h2], fun i hi j hj => ?_⟩
  have hsz : k * 17 + L.length ≤ old.size := by rw [h2, hL]; omega
  rw [setArr_get L _ _ _ hsz, hL]
  unfold upd
  by_cases e : i = k
  · subst e
    rw [if_pos rfl]
    by_cases e2 : j < 16
    · rw [if_pos (by omega), List.getElem?_append_left (by omega)]
      congr 1; omega
    · rw [if_neg (by omega), List.getElem?_append_right (by omega), h3 i hi j hj, List.getElem?_drop]
      congr 1; omega
  · rw [if_neg (by omega), if_neg e, h3 i hi j hj]
theorem OutB.range {w : World} {g N : Nat} {vals : Nat → List Value} (h : OutB w g N vals) {k : Nat} (hk : k < N) : w.rangeAt g (k * 17) (vals k) := by
  intro j v hv
  have hj : j < (vals k).length := (List.getElem?_eq_some_iff.1 hv).1
  have := (h.cell hk (j := j) (by rw [← h.1 k]; exact hj)).1
  rw [this, hv]
theorem OutB.made (w : World) (N : Nat) (z : Array Value) (hz : z.size = 17) : OutB (w.alloc (.cells (madeCells z (N * 17)) 96)) w.heap.size N (fun _ => z.toList) := by
  refine ⟨fun _ => by simp [hz], _, heap_alloc_new w _, by simp [madeCells], fun i hi j hj => ?_⟩
  have hlt : i * 17 + j < N * 17 := by omega
  have e : (i * 17 + j) % 17 = j := by omega
  simp only [madeCells, Array.getElem?_map, Array.getElem?_range, hlt, if_true, Option.map_some, hz, e]
  rw [getElem!_pos z j (by omega), Array.getElem?_toList, Array.getElem?_eq_getElem (by omega)]
theorem wpList_store_cell' {P : Program} {ops : Array Oper} {rest : List Oper} {o : Oper} {a : Act} {w : World} {Q : Exit → Act → World → Prop} (hgd : o.guard = none) (hdst : o.dst = none) (ty : TypeId) (x y : Operand) (ho : o.op = .store ty x y)
    (g at_ : Nat) (u : Value) (hx : a.eval x = .pointer (some ⟨g, at_, none⟩)) (hy : a.eval y = u) (h1 : u.oneCell' = true)
    (t : TypeId) (old : Array Value) (hg : w.heap[g]? = some (.cells old t (0, 0))) (hi : (P.info? ty).map (·.size) = some 1) (hold : at_ < old.size)
    (h : ∀ w', w' = w.setCell ⟨g, at_, none⟩ u → wpList P ops Q rest a w') : wpList P ops Q (o :: rest) a w :=
  wpList_store_cell hgd hdst ty x y ho g at_ u hx hy h1 t old hg hi hold (h _ rfl)
/-! ### rows that grow -/
section
variable {T2 T1 : TypeId} {w w' : World} {base : Nat} {V : Value} {vs : List Value} {xss : List (List UInt8)}
theorem RowsW.app (hT : T1 ≠ T2) {A : Option Addr} {n c : Nat} (h : RowsW T2 T1 w base (.slice A n c) vs xss) {k : Nat} (hk : k < vs.length) {v' : Value} {x' : List UInt8} (ho : OwnS vB T1 w' base v' x') (hg : w.grownBy w' vs[k].ownBlock)
    (ha : v'.ownBlock = vs[k].ownBlock ∨ v'.ownBlock = some w.heap.size) :
    ∃ g, A = some ⟨g, 0, none⟩ ∧ base ≤ g ∧ w'.cell? ⟨g, k, none⟩ = some vs[k] ∧ w'.frozen? ⟨g, k, none⟩ = false ∧ RowsW T2 T1 (w'.setCell ⟨g, k, none⟩ v') base (.slice A n c) (vs.set k v') (xss.set k x') := by
  have hk' : k < xss.length := by rw [← h.len]; exact hk
  have hap := OwnS.apart h.own (h.rows k hk hk') (fun e => hT e.symm)
  have hown := h.own.other hg hap
  obtain ⟨g, rfl, h1, h2, h3, h4, h5⟩ := hown.at_ hk
  have hob : (Value.slice (some ⟨g, 0, none⟩) n c).ownBlock = some g := rfl
  obtain ⟨cs, hcs⟩ := own_blk hown hob
  have hgs := gb_set (gb_ext (Ext.refl w') (some g)) k v'
  refine ⟨g, rfl, h1, h3, h4, h5 v', by simp [h.len], ?_, ?_⟩
  · intro i hi0 hi'0
    have hi : i < vs.length := by simpa using hi0
    have hi' : i < xss.length := by simpa using hi'0
    by_cases e : i = k
    · subst e
      simpa using ho.other hgs (.inr (own_ne ho hcs hT))
    · have hr := (h.rows i hi hi').other hg (h.apart i k hi hk e)
      have := hr.other hgs (.inr (own_ne hr hcs hT))
      simpa [List.getElem_set_ne (fun x => e x.symm)] using this
  · have hnew : ∀ i, (hi : i < vs.length) → i ≠ k → vs[i].ownBlock = none ∨ vs[i].ownBlock ≠ v'.ownBlock := fun i hi e => by
      rcases ha with ha | ha
      · rw [ha]; exact h.apart i k hi hk e
      · cases hq : vs[i].ownBlock with
        | none => exact .inl rfl
        | some q =>
          refine .inr ?_
          rw [ha]
          intro e2
          injection e2 with e2
          have := (h.rows i hi (by rw [← h.len]; exact hi)).lt q hq
          omega
    intro i j hi0 hj0 hij
    have hi : i < vs.length := by simpa using hi0
    have hj : j < vs.length := by simpa using hj0
    by_cases ei : i = k
    · subst ei
      cases hq : v'.ownBlock with
      | none => left; simpa using hq
      | some q =>
        right
        rcases hnew j hj (fun e => hij e.symm) with h0 | h0
        · simp [List.getElem_set_ne hij, h0, hq]
        · simpa [List.getElem_set_ne hij] using fun e => h0 e.symm
    · by_cases ej : j = k
      · subst ej
        have := hnew i hi ei
        simpa [List.getElem_set_ne (fun x => ei x.symm)] using this
      · simpa [List.getElem_set_ne (fun x => ei x.symm), List.getElem_set_ne (fun x => ej x.symm)] using h.apart i j hi hj hij
end
theorem OwnS.full {α : Type} {enc : α → Value} {T : TypeId} {w : World} {base g n : Nat} {xs : List α} (h : OwnS enc T w base (.slice (some ⟨g, 0, none⟩) n n) xs) : w.heap[g]? = some (.cells (xs.map enc).toArray T (0, 0)) := by
  have hf := h.form
  obtain ⟨A, c, e, _⟩ := hf
  injection e with _ e2 _
  obtain ⟨h1, h2⟩ := h
  rcases h2 with ⟨h2, _⟩ | ⟨g', cap, cur, hv, hb, hg, hnc, hcm, hs, ht⟩
  · cases h2
  · injection hv with hv1 hv2 hv3
    injection hv1 with hv1
    injection hv1 with hv1
    subst hv1
    rw [hg]
    have : cur.toList = xs.map enc := by
      rw [← ht, List.take_of_length_le (by simp; omega)]
    rw [← this]
theorem OwnS.of_blk {α : Type} {enc : α → Value} {T : TypeId} {w : World} {base g : Nat} {xs : List α} (hb : w.heap[g]? = some (.cells (xs.map enc).toArray T (0, 0))) (hg : base ≤ g) (hm : xs.length ≤ maxLen) : OwnS enc T w base (.slice (some ⟨g, 0, none⟩) xs.length xs.length) xs :=
  ⟨by simp, .inr ⟨g, xs.length, _, rfl, hg, hb, Nat.le_refl _, hm, by simp, by simp [List.take_of_length_le]⟩⟩
/-! ### bytes dealt out -/
theorem splice_pad (n : Nat) (d : List UInt8) : splice ((List.replicate n (0 : UInt8)).map vB) 0 ((d.take n).map vB) = (d.take n ++ List.replicate (n - d.length) 0).map vB := by
  simp only [splice, List.take_zero, List.nil_append, Nat.zero_add, List.map_append, List.length_map, List.length_take, List.map_replicate, List.drop_replicate]
  congr 2
  omega
def padL (n : Nat) (d : List UInt8) : List UInt8 := d.take n ++ List.replicate (n - d.length) 0
theorem padL_len (n : Nat) (d : List UInt8) : (padL n d).length = n := by simp [padL]; omega
/-- Each row gets the next n bytes. -/
def dealL (k n : Nat) (d : List UInt8) (rs : List (List UInt8)) : List (List UInt8) := (List.range k).map fun i => rs.getD i [] ++ padL n (d.drop (i * n))
theorem dealL_len (k n : Nat) (d : List UInt8) (rs : List (List UInt8)) : (dealL k n d rs).length = k := by simp [dealL]
/-- Behind the first s stripes: what is left, and the rows. -/
def dealTo (k : Nat) (lens : List Nat) (d : List UInt8) : Nat → List UInt8 × List (List UInt8)
  | 0 => (d, List.replicate k [])
  | s + 1 => ((dealTo k lens d s).1.drop (k * lens.getD s 0), dealL k (lens.getD s 0) (dealTo k lens d s).1 (dealTo k lens d s).2)
theorem dealTo_len (k : Nat) (lens : List Nat) (d : List UInt8) (s : Nat) : (dealTo k lens d s).2.length = k := by
  cases s with
  | zero => simp [dealTo]
  | succ s => rw [dealTo, dealL_len]
def sumTo (lens : List Nat) (s : Nat) : Nat := (lens.take s).foldl (· + ·) 0
theorem sumTo_succ (lens : List Nat) (s : Nat) (h : s < lens.length) : sumTo lens (s + 1) = sumTo lens s + lens[s] := by
  unfold sumTo
  rw [List.take_succ_eq_append_getElem h, List.foldl_append]; rfl
theorem dealTo_rows (k : Nat) (lens : List Nat) (d : List UInt8) : ∀ s, s ≤ lens.length → ∀ x ∈ (dealTo k lens d s).2, x.length = sumTo lens s
  | 0, _ => fun x hx => by
    simp [dealTo] at hx
    rw [hx.2]; simp [sumTo]
  | s + 1, h => fun x hx => by
    have ih := dealTo_rows k lens d s (by omega)
    have hs : s < lens.length := by omega
    rw [dealTo, dealL] at hx
    obtain ⟨i, hi, rfl⟩ := List.mem_map.1 hx
    have hi' : i < (dealTo k lens d s).2.length := by rw [dealTo_len]; simpa using hi
    rw [List.length_append, padL_len, List.getD_eq_getElem?_getD, List.getElem?_eq_getElem hi', Option.getD_some, ih _ (List.getElem_mem hi'), sumTo_succ lens s hs,
      List.getD_eq_getElem?_getD, List.getElem?_eq_getElem hs, Option.getD_some]
theorem sumTo_mono (lens : List Nat) (s : Nat) : ∀ e, s + e ≤ lens.length → sumTo lens s ≤ sumTo lens (s + e)
  | 0, _ => Nat.le_refl _
  | e + 1, h => Nat.le_trans (sumTo_mono lens s e (by omega)) (by rw [← Nat.add_assoc, sumTo_succ lens (s + e) (by omega)]; omega)
theorem sumTo_le (lens : List Nat) (s : Nat) (h : s ≤ lens.length) : sumTo lens s ≤ lens.foldl (· + ·) 0 := by
  have := sumTo_mono lens s (lens.length - s) (by omega)
  rw [show s + (lens.length - s) = lens.length from by omega] at this
  simpa [sumTo] using this
/-! ### a new row of structs -/
set_option maxRecDepth 4000 in
theorem wpList_make_rows {P : Program} {ops : Array Oper} {rest : List Oper} {o : Oper} {a : Act} {w : World} {Q : Exit → Act → World → Prop}
    (hg : o.guard = none) (l c : Operand) (t T : TypeId) (z : Value) (size bytes : Nat) (hop : o.op = Op.makeSlice t l c) (ht : P.underlying t = some (.slice T))
    (hi : (P.info? T).map (fun i => (i.zero, i.size, i.bytes)) = some (some z, size, bytes)) (n : Nat) {kl kc : IntKind} {L C : Int} (hl : a.eval l = .int kl L) (hc : a.eval c = .int kc C) (hL : L = (n : Int)) (hC : C = (n : Int))
    (b2 : bytes * n ≤ 281474976710656) (b3 : n ≤ maxLen)
    (hK : wpList P ops Q rest (a.put o.dst (.slice (some ⟨w.heap.size, 0, none⟩) n n)) (w.alloc (.cells (madeCells z.cells (n * size)) T))) : wpList P ops Q (o :: rest) a w := by
  refine wpList_plain hg fun K hKK => ?_
  obtain ⟨i, hi, hz0, hsz, hby⟩ := info_parts hi
  subst hL hC
  have hrun := run_make (P := P) w t T i z ht hi hz0 kl kc n n (by omega) (by omega) (by rw [hby, ← Int.natCast_mul]; omega) (by unfold maxLen at b3; omega)
  simp only [Int.toNat_natCast, hsz] at hrun
  unfold Oper.wp execOp
  simp only [hop, hl, hc, hrun, Sem.run_bind, Sem.run_pure, Result.andThen_ok]
  exact hKK _ _ hK
end Go.Proofs.Ytmcgcfbdofpfdaa
