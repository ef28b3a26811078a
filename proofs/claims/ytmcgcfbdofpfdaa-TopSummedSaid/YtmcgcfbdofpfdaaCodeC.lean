/- code.New: the matrix of a code. -/
import Derived.Test.YtmcgcfbdofpfdaaCodeB
namespace Go.Proofs.Ytmcgcfbdofpfdaa
open Go.RowKit
attribute [local irreducible] gmul gpow ginv
theorem RO.row {T1 T : TypeId} {α : Type} {enc : α → Value} {w w' : World} {base : Nat} {u v : Value} {xs : List α} {x : List UInt8} (h : RO T1 w v x) (hu : OwnS enc T w base u xs) (hT : T1 ≠ T) (hg : w.grownBy w' u.ownBlock) : RO T1 w' v x :=
  OwnS.other h hg (OwnS.apart h hu hT)
theorem OwnR.push {T1 T2 : TypeId} {w w1 w' : World} {base : Nat} {V V' v : Value} {vs : List Value} {xss : List (List UInt8)} {x : List UInt8} (hT : T1 ≠ T2) (ho : OwnS idV T2 w base V vs) (hl : vs.length = xss.length) (hr : ∀ k, (h : k < vs.length) → (h' : k < xss.length) → RO T1 w vs[k] xss[k])
    (hE : Ext w w1) (hv : RO T1 w1 v x) (ho' : OwnS idV T2 w' base V' (vs ++ [v])) (hg : w1.grownBy w' V.ownBlock) : OwnR (RO T1) T2 w' base V' (xss ++ [x]) := by
  refine ⟨vs ++ [v], ho', by simp [hl], ?_⟩
  intro k h1 h2
  have ho1 := ho.ext hE
  by_cases hk : k < vs.length
  · have e1 : (vs ++ [v])[k] = vs[k] := List.getElem_append_left hk
    have e2 : (xss ++ [x])[k] = xss[k]'(by omega) := List.getElem_append_left (by omega)
    rw [e1, e2]
    exact RO.row (stays_RO _ _ _ _ hE (hr k hk (by omega))) ho1 hT hg
  · have hk2 : k = vs.length := by simp at h1; omega
    have e1 : (vs ++ [v])[k] = v := by subst hk2; simp
    have e2 : (xss ++ [x])[k] = x := by subst hk2; simp [hl]
    rw [e1, e2]
    exact RO.row hv ho1 hT hg
theorem infoRE' : (Try.prog.info? 65).map (fun i => (i.zero, i.size, i.bytes)) = some (some (.slice none 0 0), 1, 24) := by kernel_rfl
def codeL (k m : Nat) : List (List UInt8) := identL k 1 ++ (List.range m).map fun i => weightsL k (k + i)
def codeTo (k j : Nat) : List (List UInt8) := identL k 1 ++ (List.range j).map fun i => weightsL k (k + i)
theorem codeTo_succ (k j : Nat) : codeTo k (j + 1) = codeTo k j ++ [weightsL k (k + j)] := by simp [codeTo, List.range_succ]
theorem codeTo_len (k j : Nat) : (codeTo k j).length = k + j := by simp [codeTo, identL]
def CodeAt (w : World) (g k n : Nat) (mat : List (List UInt8)) : Prop :=
  ∃ V, w.heap[g]? = some (.cells #[.int .i64 k, .int .i64 n, V] 143 (0, 0)) ∧ OwnR (RO 39) 65 w 0 V mat
theorem CodeAt.ext {w w' : World} {g k n : Nat} {mat : List (List UInt8)} (h : CodeAt w g k n mat) (hE : Ext w w') : CodeAt w' g k n mat := by
  obtain ⟨V, h1, h2⟩ := h
  exact ⟨V, hE.heap h1, h2.ext stays_RO hE⟩
set_option maxRecDepth 8000 in
theorem new_c (k m : Nat) (w : World) (hm : 1 ≤ m) (hmk : m ≤ k) (hk : k ≤ 254) (hkm : k + m ≤ 255) :
    Calls Try.prog 68 #[.int .i64 k, .int .i64 m] w fun e w' => ∃ g, e = .returned (.tuple #[.pointer (some ⟨g, 0, none⟩), .int .i64 0]) ∧ CodeAt w' g k (k + m) (codeL k m) ∧ Ext w w' := by
  have q1 : IntKind.i64.wrap ((k : Int) + (m : Int)) = (k : Int) + (m : Int) := IntWalk.i64_in _ (by omega)
  have q2 : IntKind.i64.wrap (255 - (k : Int)) = 255 - (k : Int) := IntWalk.i64_in _ (by omega)
  have hI : ∀ w, Calls Try.prog 63 #[.int .i64 k, .int .u8 1] w fun e w' => ∃ g vs, e = .returned (.tuple #[.slice (some ⟨g, 0, none⟩) k k, .int .i64 0]) ∧ RowsW 65 39 w' w.heap.size (.slice (some ⟨g, 0, none⟩) k k) vs (identL k 1) ∧ Ext w w' := fun w => identity_c k 1 w (by omega) (by omega)
  have HI := Lib.hid hI; clear hI
  go_enter Try.func68, Try.ntmps68
  go_wp2_with (go_at_call 63; (with_reducible refine (HI.out _).mono ?_); rintro e w1 ⟨g, vs, rfl, ho, hE⟩)
  go_loopw [6, 8] (fun V i wr => ∃ (j x : Nat), x ≤ k + m ∧ i = .int .i64 x ∧ Hid (x = k + j) ∧ Hid (OwnR (RO 39) 65 wr w.heap.size V (codeTo k j)) ∧ Hid (Ext w wr)) (fun _ i _ => k + m - (intOf i).toNat)
  case atStart => exact ⟨0, k, by omega, rfl, Lib.hid rfl, by simpa [codeTo] using Lib.hid ho.toR, Lib.hid hE⟩
  case round =>
    clear ho hE q2
    obtain ⟨j, x, hj, rfl, HX, HO, HE⟩ := hrel
    by_cases hlt : x < k + m
    · obtain ⟨us, huo, hul, hur⟩ := HO.out
      rw [codeTo_len, ← HX.out] at hul
      have HUO := Lib.hid huo; clear huo
      have HUR := Lib.hid hur; clear hur
      have HUL := Lib.hid hul; clear hul
      go_wp2_with (first | (go_at_call 86; (with_reducible refine (weights_c k x _ (by omega) (by omega) (by omega)).mono ?_); rintro e w2 ⟨v2, rfl, ho2, hE2⟩; obtain ⟨A2, c2, rfl, h2a, h2b, h2c⟩ := ho2.form; clear h2a h2b h2c; have HO2 := Lib.hid ho2; clear ho2) | (refine wpList_append_S (enc := idV) (ys := [.slice A2 (weightsL k x).length c2]) (fun x hx => by simp at hx; subst hx; rfl) rfl (.tmp 39) (.tmp 43) 64 65 _ 24 w.heap.size rfl Try.underlying64 infoRE' rfl (v := u6) rfl (HUO.out.ext (hE2.al _)) rfl rfl (RdS_one _ _ _) (by simp [maxLen, HUL.out]; omega) (by simp [HUL.out]; omega) (by have := (HE.out.tr hE2).size; simp; omega) ?_; intro v4 w4 ho4 hg4 _))
      refine ⟨⟨j + 1, x + 1, by omega, by go_num, Lib.hid (by rw [HX.out]; omega), ?_, Lib.hid ((HE.out.tr (hE2.al _)).gr hg4 HUO.out.ge)⟩, by simp [intOf]; omega⟩
      rw [codeTo_succ, ← HX.out]
      exact Lib.hid (OwnR.push (by decide) HUO.out (by rw [HUL.out, codeTo_len, HX.out]) HUR.out (hE2.al _) (((HO2.out.lower (Nat.zero_le _)).ext ((Ext.refl _).al _))) ho4 hg4)
    · obtain rfl : j = m := by have := HX.out; omega
      obtain ⟨us, huo, hul, hur⟩ := HO.out
      obtain ⟨A6, c6, rfl, _⟩ := huo.form
      clear huo hul hur
      go_wp2
      go_ret2
      refine ⟨_, rfl, ⟨_, heap_alloc_new _ _, (HO.out.ext stays_RO ((Ext.refl _).al _)).lower (Nat.zero_le _)⟩, HE.out.al _⟩
end Go.Proofs.Ytmcgcfbdofpfdaa
