/- A law's body, statement by statement: what follows a statement stays closed. -/
import Derived.Test.YtmcgcfbdofpfdaaBase3
namespace Go.Proofs.Ytmcgcfbdofpfdaa
open Go.RowKit
def tailN : Nat → Code → Code
  | 0, c => c
  | n + 1, .seq _ b => tailN n b
  | _ + 1, c => c
def headN (n : Nat) (c : Code) : Code := match tailN n c with
  | .seq a _ => a
  | c => c
/-- A law's end: its result's slot holds true. -/
def QE (s : Nat) (W0 : World) : Exit → Act → World → Prop := fun e a w' => match e with
  | .ret => a.tmps.getD s undef = .bool true ∧ a.defers = [] ∧ Ext W0 w'
  | _ => False
theorem wp_step {P : Program} {c : Code} {n : Nat} {Q : Exit → Act → World → Prop} {a : Act} {w : World} (h0 : tailN n c = .seq (headN n c) (tailN (n + 1) c))
    (h : ∀ K : Act → World → Prop, (∀ a w, (tailN (n + 1) c).wp P Q a w → K a w) → (headN n c).wp P (Exit.then K Q) a w) : (tailN n c).wp P Q a w := by
  rw [h0]
  exact wp_seq_k h
theorem QE_end {P : Program} {fn : Func} {s : Nat} {W0 : World} (hs : fn.results = #[.tmp s]) (e : Exit) (a : Act) (w : World) (h : QE s W0 e a w) : bodyPost P fn (fun e w' => e = .returned (.bool true) ∧ Ext W0 w') e a w := by
  unfold QE at h
  split at h
  · obtain ⟨h1, h2, h3⟩ := h
    exact bodyPost_ret (v := .bool true) (by rw [results_tmp hs, h1]) h2 ⟨rfl, h3⟩
  · exact h.elim
end Go.Proofs.Ytmcgcfbdofpfdaa
