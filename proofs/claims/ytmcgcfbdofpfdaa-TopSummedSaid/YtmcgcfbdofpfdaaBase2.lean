/- More words for the walks: cells of a known block read as a slice; slices of what stands behind its own addresses. -/
import Derived.Test.YtmcgcfbdofpfdaaBase
namespace Go.Proofs.Ytmcgcfbdofpfdaa
open Go.RowKit
theorem RdS.blk {α : Type} {enc : α → Value} {w : World} {g : Nat} {cs : Array Value} {t : TypeId} {fr : Nat × Nat} (h : w.heap[g]? = some (.cells cs t fr)) (o : Nat) (xs : List α) (hx : ∀ k, (hk : k < xs.length) → cs[o + k]? = some (enc xs[k])) : RdS enc w (some ⟨g, o, none⟩) xs :=
  fun _ => ⟨g, o, rfl, blk_lt h, fun k hk => (blk_cell h _).trans (hx k hk)⟩

/-! ### slices of which each cell is to be read further -/
def RdR {α : Type} (R : World → Value → α → Prop) (w : World) (A : Option Addr) (xs : List α) : Prop :=
  xs ≠ [] → ∃ b o, A = some ⟨b, o, none⟩ ∧ b < w.heap.size ∧ ∀ k, (h : k < xs.length) → ∃ v, w.cell? ⟨b, o + k, none⟩ = some v ∧ R w v xs[k]
def SlR {α : Type} (R : World → Value → α → Prop) (w : World) (v : Value) (xs : List α) : Prop :=
  ∃ A c, v = .slice A xs.length c ∧ xs.length ≤ c ∧ c ≤ maxLen ∧ RdR R w A xs
/-- What is read stays as the world grows. -/
def Stays {α : Type} (R : World → Value → α → Prop) : Prop := ∀ w w' v x, Ext w w' → R w v x → R w' v x
section
variable {α : Type} {R : World → Value → α → Prop} {w w' : World} {A : Option Addr} {xs : List α} {v : Value}
theorem stays_S {α : Type} {enc : α → Value} : Stays (SlV enc) := fun _ _ _ _ hE h => h.ext hE
theorem RdR.ext (hR : Stays R) (h : RdR R w A xs) (hb : Ext w w') : RdR R w' A xs := fun hn => by
  obtain ⟨b, o, e, hlt, hc⟩ := h hn
  exact ⟨b, o, e, Nat.lt_of_lt_of_le hlt hb.size, fun k hk => by
    obtain ⟨v, hv, hr⟩ := hc k hk
    exact ⟨v, (hb.bc.1 b (o + k) hlt).trans hv, hR _ _ _ _ hb hr⟩⟩
theorem SlR.ext (hR : Stays R) (h : SlR R w v xs) (hb : Ext w w') : SlR R w' v xs := by
  obtain ⟨A, c, e, h1, h2, h3⟩ := h
  exact ⟨A, c, e, h1, h2, h3.ext hR hb⟩
theorem stays_R (hR : Stays R) : Stays (SlR R) := fun _ _ _ _ hE h => h.ext hR hE
theorem RdR.at_ (h : RdR R w A xs) {k : Nat} (hk : k < xs.length) : ∃ b o v, A = some ⟨b, o, none⟩ ∧ b < w.heap.size ∧ w.cell? ⟨b, o + k, none⟩ = some v ∧ R w v xs[k] := by
  obtain ⟨b, o, e, hlt, hc⟩ := h (fun e => by subst e; simp at hk)
  obtain ⟨v, hv, hr⟩ := hc k hk
  exact ⟨b, o, v, e, hlt, hv, hr⟩
theorem RdR.nil (w : World) (A : Option Addr) : RdR R w A [] := fun h => absurd rfl h
theorem SlR.nil (w : World) : SlR R w (.slice none 0 0) [] := ⟨none, 0, rfl, Nat.le_refl _, by unfold maxLen; omega, RdR.nil _ _⟩
theorem RdR.take (h : RdR R w A xs) (n : Nat) : RdR R w A (xs.take n) := fun hn => by
  obtain ⟨b, o, e, hlt, hc⟩ := h (fun e => hn (by simp [e]))
  exact ⟨b, o, e, hlt, fun k hk => by
    obtain ⟨v, hv, hr⟩ := hc k (by simp at hk; omega)
    exact ⟨v, hv, by simpa using hr⟩⟩
theorem RdR.drop (h : RdR R w A xs) {c n : Nat} (hc : xs.length ≤ c) : RdR R w (if c = n then A else A.map (·.add n)) (xs.drop n) := fun hn => by
  obtain ⟨b, o, e, hlt, hcell⟩ := h (fun e => hn (by simp [e]))
  have hlen : n < xs.length := by
    rcases Nat.lt_or_ge n xs.length with h' | h'
    · exact h'
    · exact absurd (List.drop_of_length_le h') hn
  refine ⟨b, o + n, ?_, hlt, fun k hk => ?_⟩
  · rw [if_neg (by omega), e]; simp [Addr.add_lit]
  · obtain ⟨v, hv, hr⟩ := hcell (n + k) (by simp at hk; omega)
    exact ⟨v, by rw [show o + n + k = o + (n + k) from by omega]; exact hv, by simpa using hr⟩
end
/-- An owned slice whose cells are to be read further: its cells' values, and what each is. -/
def idV (v : Value) : Value := v
def OwnR {α : Type} (R : World → Value → α → Prop) (T : TypeId) (w : World) (base : Nat) (v : Value) (xs : List α) : Prop :=
  ∃ vs : List Value, OwnS idV T w base v vs ∧ vs.length = xs.length ∧ ∀ k, (h : k < vs.length) → (h' : k < xs.length) → R w vs[k] xs[k]
section
variable {α : Type} {R : World → Value → α → Prop} {T : TypeId} {w w' : World} {base : Nat} {v : Value} {xs : List α}
theorem OwnR.nil (w : World) (base : Nat) : OwnR R T w base (.slice none 0 0) [] := ⟨[], OwnS.nil _ _, rfl, fun k h => absurd h (by simp)⟩
theorem OwnR.sl (h : OwnR R T w base v xs) : SlR R w v xs := by
  obtain ⟨vs, ho, hl, hr⟩ := h
  obtain ⟨A, c, e, h1, h2, h3⟩ := ho.sl
  refine ⟨A, c, by rw [e, hl], by omega, h2, fun hn => ?_⟩
  have hv : vs ≠ [] := fun e => hn (List.eq_nil_of_length_eq_zero (by rw [← hl, e]; rfl))
  obtain ⟨b, o, e, hlt, hc⟩ := h3 hv
  exact ⟨b, o, e, hlt, fun k hk => ⟨vs[k]'(by omega), hc k (by omega), hr k (by omega) hk⟩⟩
theorem OwnR.ext (hR : Stays R) (h : OwnR R T w base v xs) (hb : Ext w w') : OwnR R T w' base v xs := by
  obtain ⟨vs, ho, hl, hr⟩ := h
  exact ⟨vs, ho.ext hb, hl, fun k h h' => hR _ _ _ _ hb (hr k h h')⟩
theorem OwnR.lower (h : OwnR R T w base v xs) {b : Nat} (hb : b ≤ base) : OwnR R T w b v xs := by
  obtain ⟨vs, ho, hl, hr⟩ := h
  exact ⟨vs, ho.lower hb, hl, hr⟩
end
end Go.Proofs.Ytmcgcfbdofpfdaa
