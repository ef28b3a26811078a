/- Slices of rows, each row in a block of its own: what stays when one of them is written. -/
import Derived.Test.YtmcgcfbdofpfdaaFrameG
namespace Go.Proofs.Ytmcgcfbdofpfdaa
open Go.RowKit
theorem OwnS.lt {α : Type} {enc : α → Value} {T : TypeId} {w : World} {base : Nat} {v : Value} {xs : List α} (h : OwnS enc T w base v xs) : ∀ k, v.ownBlock = some k → k < w.heap.size := fun k hk => (World.ownsRow.lt h k hk).2
theorem OwnS.apart {α β : Type} {enc : α → Value} {enc' : β → Value} {T T' : TypeId} {w : World} {b b' : Nat} {u v : Value} {xs : List α} {ys : List β} (h : OwnS enc T w b u xs) (h' : OwnS enc' T' w b' v ys) (hT : T ≠ T') : u.ownBlock = none ∨ u.ownBlock ≠ v.ownBlock := by
  cases hu : u.ownBlock with
  | none => exact .inl rfl
  | some g =>
    refine .inr fun e => ?_
    obtain ⟨cs, hc⟩ := own_blk h' e.symm
    exact own_ne h hc hT hu
/-- The rows, by the values of the outer cells and by what each row holds. -/
structure RowsW (T2 T1 : TypeId) (w : World) (base : Nat) (V : Value) (vs : List Value) (xss : List (List UInt8)) : Prop where
  own : OwnS idV T2 w base V vs
  len : vs.length = xss.length
  rows : ∀ k, (h : k < vs.length) → (h' : k < xss.length) → OwnS vB T1 w base vs[k] xss[k]
  apart : ∀ i j, (hi : i < vs.length) → (hj : j < vs.length) → i ≠ j → vs[i].ownBlock = none ∨ vs[i].ownBlock ≠ vs[j].ownBlock
section
variable {T2 T1 : TypeId} {w w' : World} {base : Nat} {V : Value} {vs : List Value} {xss : List (List UInt8)}
theorem RowsW.ext (h : RowsW T2 T1 w base V vs xss) (hE : Ext w w') : RowsW T2 T1 w' base V vs xss :=
  ⟨h.own.ext hE, h.len, fun k a b => (h.rows k a b).ext hE, h.apart⟩
theorem RowsW.lower (h : RowsW T2 T1 w base V vs xss) {b : Nat} (hb : b ≤ base) : RowsW T2 T1 w b V vs xss :=
  ⟨h.own.lower hb, h.len, fun k x y => (h.rows k x y).lower hb, h.apart⟩
/-- A block of the outer's kind is written: the rows stay. -/
theorem RowsW.new (w : World) (n : Nat) (h : OwnS idV T2 w base V (List.replicate n (.slice none 0 0))) : RowsW T2 T1 w base V (List.replicate n (.slice none 0 0)) (List.replicate n []) :=
  ⟨h, by simp, fun k a b => by simpa using OwnS.nil w base, fun i j hi hj _ => .inl (by simp [Value.ownBlock])⟩
/-- The outer cell k gets a row that is apart from all other rows. -/
theorem RowsW.put (hT : T1 ≠ T2) {A : Option Addr} {n c : Nat} (h : RowsW T2 T1 w base (.slice A n c) vs xss) {k : Nat} (hk : k < vs.length) {v : Value} {x : List UInt8} (hv : OwnS vB T1 w base v x)
    (hd : ∀ i, (hi : i < vs.length) → i ≠ k → v.ownBlock = none ∨ v.ownBlock ≠ vs[i].ownBlock) :
    ∃ g, A = some ⟨g, 0, none⟩ ∧ base ≤ g ∧ w.cell? ⟨g, k, none⟩ = some vs[k] ∧ w.frozen? ⟨g, k, none⟩ = false ∧ RowsW T2 T1 (w.setCell ⟨g, k, none⟩ v) base (.slice A n c) (vs.set k v) (xss.set k x) := by
  obtain ⟨g, rfl, h1, h2, h3, h4, h5⟩ := h.own.at_ hk
  refine ⟨g, rfl, h1, h3, h4, h5 v, by simp [h.len], ?_, ?_⟩
  · have hob : (Value.slice (some ⟨g, 0, none⟩) n c).ownBlock = some g := rfl
    obtain ⟨cs, hcs⟩ := own_blk h.own hob
    have hg := gb_set (gb_ext (Ext.refl w) (some g)) k v
    intro i hi hi'
    simp only [List.length_set] at hi hi'
    by_cases e : i = k
    · subst e
      simpa using hv.other hg (.inr (own_ne hv hcs hT))
    · have := (h.rows i hi hi').other hg (.inr (own_ne (h.rows i hi hi') hcs hT))
      simpa [List.getElem_set_ne (fun x => e x.symm)] using this
  · intro i j hi0 hj0 hij
    have hi : i < vs.length := by simpa using hi0
    have hj : j < vs.length := by simpa using hj0
    by_cases ei : i = k
    · subst ei
      have := hd j hj (fun e => hij e.symm)
      simpa [List.getElem_set_ne hij] using this
    · by_cases ej : j = k
      · subst ej
        have := hd i hi ei
        rcases this with h0 | h0
        · cases hb : vs[i].ownBlock with
          | none => left; simpa [List.getElem_set_ne (fun x => ei x.symm)] using hb
          | some q => right; simp [List.getElem_set_ne (fun x => ei x.symm), hb, h0]
        · right; simpa [List.getElem_set_ne (fun x => ei x.symm)] using fun e => h0 e.symm
      · simpa [List.getElem_set_ne (fun x => ei x.symm), List.getElem_set_ne (fun x => ej x.symm)] using h.apart i j hi hj hij
/-- A new row, made behind all that stands. -/
theorem RowsW.put_new (hT : T1 ≠ T2) {A : Option Addr} {n c : Nat} (h : RowsW T2 T1 w base (.slice A n c) vs xss) {k : Nat} (hk : k < vs.length) {v : Value} {x : List UInt8} (hb : base ≤ w.heap.size) (hv : OwnS vB T1 w' w.heap.size v x) (hE : Ext w w') :
    ∃ g, A = some ⟨g, 0, none⟩ ∧ base ≤ g ∧ w'.cell? ⟨g, k, none⟩ = some vs[k] ∧ w'.frozen? ⟨g, k, none⟩ = false ∧ RowsW T2 T1 (w'.setCell ⟨g, k, none⟩ v) base (.slice A n c) (vs.set k v) (xss.set k x) :=
  (h.ext hE).put hT hk (hv.lower hb) fun i hi _ => by
    cases hq : v.ownBlock with
    | none => exact .inl rfl
    | some q =>
      refine .inr fun e => ?_
      have h1 := hv.ge q hq
      have h2 := (h.rows i hi (by rw [← h.len]; exact hi)).lt q e.symm
      omega
/-- Row k is written within its own block. -/
theorem RowsW.row (hT : T1 ≠ T2) (h : RowsW T2 T1 w base V vs xss) {k : Nat} (hk : k < vs.length) {x : List UInt8} (hv : OwnS vB T1 w' base vs[k] x) (hg : w.grownBy w' vs[k].ownBlock) :
    RowsW T2 T1 w' base V vs (xss.set k x) := by
  refine ⟨h.own.other hg ?_, by simp [h.len], ?_, h.apart⟩
  · exact OwnS.apart h.own (h.rows k hk (by rw [← h.len]; exact hk)) (fun e => hT e.symm)
  · intro i hi hi'
    simp only [List.length_set] at hi'
    by_cases e : i = k
    · subst e; simpa using hv
    · rw [List.getElem_set_ne (fun x => e x.symm)]
      exact (h.rows i hi hi').other hg (h.apart i k hi hk e)
/-- A cell of row k is written. -/
theorem RowsW.cell (hT : T1 ≠ T2) (h : RowsW T2 T1 w base V vs xss) {k j : Nat} (hk : k < vs.length) (hk' : k < xss.length) (hj : j < xss[k].length) :
    ∃ g c, vs[k] = .slice (some ⟨g, 0, none⟩) xss[k].length c ∧ base ≤ g ∧ w.cell? ⟨g, j, none⟩ = some (vB xss[k][j]) ∧ w.frozen? ⟨g, j, none⟩ = false ∧
      ∀ x, RowsW T2 T1 (w.setCell ⟨g, j, none⟩ (vB x)) base V vs (xss.set k (xss[k].set j x)) := by
  have hr := h.rows k hk hk'
  obtain ⟨A, c, e, _, _, _⟩ := hr.form
  have hr' := hr
  rw [e] at hr'
  obtain ⟨g, rfl, h1, h2, h3, h4, h5⟩ := hr'.at_ hj
  refine ⟨g, c, e, h1, h3, h4, fun x => h.row hT hk (by rw [e]; exact h5 x) ?_⟩
  rw [e]
  exact gb_set (gb_ext (Ext.refl w) (some g)) j (vB x)
theorem RowsW.at_ {A : Option Addr} {n c : Nat} (h : RowsW T2 T1 w base (.slice A n c) vs xss) {k : Nat} (hk : k < vs.length) : ∃ g, A = some ⟨g, 0, none⟩ ∧ base ≤ g ∧ w.cell? ⟨g, k, none⟩ = some vs[k] := by
  obtain ⟨g, e, h1, _, h3, _⟩ := h.own.at_ hk
  exact ⟨g, e, h1, h3⟩
/-- Read alone. -/
def RO (T1 : TypeId) (w : World) (v : Value) (x : List UInt8) : Prop := OwnS vB T1 w 0 v x
theorem stays_RO : Stays (RO T1) := fun _ _ _ _ hE h => OwnS.ext h hE
theorem RowsW.toR (h : RowsW T2 T1 w base V vs xss) : OwnR (RO T1) T2 w base V xss :=
  ⟨vs, h.own, h.len, fun k a b => (h.rows k a b).lower (Nat.zero_le _)⟩
end
end Go.Proofs.Ytmcgcfbdofpfdaa
