/- The walks of the codec's reader, where the bytes suffice. -/
import Derived.Test.YtmcgcfbdofpfdaaCodecA
import Derived.Recover
namespace Go.Proofs.Ytmcgcfbdofpfdaa
open Go.RowKit
theorem own_ne {α : Type} {enc : α → Value} {T t : TypeId} {w : World} {base g : Nat} {v : Value} {xs : List α} {cs : Array Value} {fr : Nat × Nat} (h : OwnS enc T w base v xs) (hg : w.heap[g]? = some (.cells cs t fr)) (hne : T ≠ t) : v.ownBlock ≠ some g := by
  rcases h.2 with ⟨rfl, _⟩ | ⟨g', cap, cur, rfl, _, hh, _⟩
  · simp [Value.ownBlock]
  · intro e
    simp [Value.ownBlock] at e
    subst e
    rw [hh] at hg
    injection hg with hg
    injection hg with _ ht
    exact hne ht
def ReaderAt (w : World) (g : Nat) (v : Value) (bs : List UInt8) (at_ : Nat) : Prop :=
  w.heap[g]? = some (.cells #[v, .int .i64 (at_ : Int), .int .i64 0] 157 (0, 0)) ∧ OwnS vB 5 w 0 v bs
theorem ReaderAt.ext {w w' : World} {g : Nat} {v : Value} {bs : List UInt8} {k : Nat} (h : ReaderAt w g v bs k) (hE : Ext w w') : ReaderAt w' g v bs k := ⟨hE.heap h.1, h.2.ext hE⟩
theorem must_c (e : Int) (w : World) : Calls Try.prog 100 #[.bool true, .int .i64 e] w fun e w' => e = .returned (.tuple #[]) ∧ w = w' := by
  go_enter Try.func100, Try.ntmps100
  go_wp2
  go_end0
  exact ⟨rfl, rfl⟩
theorem open_c (v : Value) (bs : List UInt8) (w : World) (hv : SlV vB w v bs) (hn : bs.length ≤ 70368744177664) :
    Calls Try.prog 92 #[v] w fun e w' => ∃ g v', e = .returned (.pointer (some ⟨g, 0, none⟩)) ∧ w.heap.size ≤ g ∧ ReaderAt w' g v' bs 0 ∧ Ext w w' := by
  have HV := Lib.hid hv; clear hv
  go_enter Try.func92, Try.ntmps92
  go_wp2_with (go_at_call 71; with_reducible refine (bclone_c _ _ _ HV.out (by omega)).mono ?_; rintro e w1 ⟨v1, rfl, ho, hE⟩; obtain ⟨A1, c1, rfl, _, _, _⟩ := ho.form)
  go_ret
  refine ⟨_, _, rfl, hE.size, ⟨heap_alloc_new _ _, ?_⟩, hE.al _⟩
  exact (ho.ext ((Ext.refl _).al _)).lower (Nat.zero_le _)
set_option maxRecDepth 8000 in
theorem take_c (g : Nat) (v : Value) (bs : List UInt8) (k n : Nat) (w : World) (h : ReaderAt w g v bs k) (hk : k + n ≤ bs.length) :
    Calls Try.prog 101 #[.pointer (some ⟨g, 0, none⟩), .int .u64 (n : Int)] w fun e w' => ∃ v', e = .returned v' ∧ SlV vB w' v' ((bs.drop k).take n) ∧ ReaderAt w' g v bs (k + n) ∧ w.grownBy w' (some g) := by
  obtain ⟨hb, ho⟩ := h
  have hne := own_ne ho hb (by decide)
  obtain ⟨A, c, rfl, hlc, hcm, hr⟩ := ho.form
  unfold maxLen at hcm
  have c0 : w.cell? ⟨g, 0, none⟩ = some (.slice A bs.length c) := blk_cell hb 0
  have c1 : w.cell? ⟨g, 1, none⟩ = some (.int .i64 k) := blk_cell hb 1
  have hf := blk_fr hb 1
  have HB := Lib.hid hb; clear hb
  have HO := Lib.hid ho; clear ho
  have HR := Lib.hid hr; clear hr
  have HN := Lib.hid hne; clear hne
  have q1 : IntKind.i64.wrap ((bs.length : Int) - (k : Int)) = (bs.length : Int) - (k : Int) := IntWalk.i64_in _ (by omega)
  have q2 : IntKind.u64.wrap ((bs.length : Int) - (k : Int)) = (bs.length : Int) - (k : Int) := IntWalk.u64_in _ (by omega)
  have q3 : decide ((n : Int) ≤ (bs.length : Int) - (k : Int)) = true := by simp; omega
  have hm := fun W => must_c 70 W
  have HM := Lib.hid hm; clear hm
  go_enter Try.func101, Try.ntmps101
  go_wp2_with fail
  go_quiet ((go_at_call 100; first | exact quiet_l HM.out _ _ | exact quiet_l0 HM.out _))
  clear q1 q2 q3
  have p1 : IntKind.i64.wrap (n : Int) = (n : Int) := IntWalk.i64_in _ (by omega)
  have p2 : IntKind.i64.wrap ((k : Int) + (n : Int)) = (k : Int) + (n : Int) := IntWalk.i64_in _ (by omega)
  have p3 : (0 : Int) ≤ (k : Int) + (n : Int) := by omega
  have p4 : ((k : Int) + (n : Int)).toNat = k + n := by omega
  have p5 : k ≤ k + n := by omega
  have p6 : k + n ≤ c := by omega
  have p7 : (k : Int) ≤ (k : Int) + (n : Int) := by omega
  have p8 : (k : Int) + (n : Int) ≤ (c : Int) := by omega
  go_wp2_with fail
  go_quiet (fail)
  generalize hA : (if c = k then A else Option.map (fun x => x.add k) A) = A'
  have HA := Lib.hid hA; clear hA
  clear p3 p4 p5 p6 p7 p8
  go_wp2
  go_ret
  have hg : ∀ m, w.grownBy ((w.drewN m).setCell ⟨g, 1, none⟩ (.int .i64 ((k : Int) + n))) (some g) := fun m => gb_set (gb_drN (gb_ext (Ext.refl w) _) _) _ _
  refine ⟨_, rfl, ⟨A', c - k, ?_, ?_, ?_, ?_⟩, ⟨blk_set (w := w.drewN _) HB.out 1 _, HO.out.other (hg _) (.inr HN.out)⟩, hg _⟩
  · have : ((bs.drop k).take n).length = n := by simp; omega
    rw [this]; rfl
  · simp; omega
  · unfold maxLen; omega
  · rw [← HA.out]
    refine ((HR.out.gb (hg _) fun a ha e => HN.out (by rw [ha, ← e]; rfl)).drop hlc).take n
end Go.Proofs.Ytmcgcfbdofpfdaa
