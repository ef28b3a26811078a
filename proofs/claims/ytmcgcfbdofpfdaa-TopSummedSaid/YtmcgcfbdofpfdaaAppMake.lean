/- append(x, make([]T, n)...) onto an owned slice. -/
import Derived.Test.YtmcgcfbdofpfdaaSplitA
import Derived.Lib.AppendZeros
namespace Go.Proofs.Ytmcgcfbdofpfdaa
open Go.RowKit
theorem zeroCells_one (z : Value) (n : Nat) : (Builtin.zeroCells #[z] n).toList = List.replicate n z := by
  have := madeCells_one z n
  simpa [madeCells, Builtin.zeroCells] using this
theorem run_append_make_S {P : Program} {α : Type} {enc : α → Value} (d : α) (hd : (enc d).cells = #[enc d]) (hone : (enc d).oneCell' = true) (w : World) (base : Nat) (t tn ty T : TypeId) (kn : IntKind) (bytes : Nat) (ht : P.underlying t = some (.slice T)) (htn : P.underlying tn = some (.int kn))
    (hi : (P.info? T).map (fun i => (i.zero, i.size, i.bytes)) = some (some (enc d), 1, bytes)) {v : Value} {xs : List α} (hown : OwnS enc T w base v xs) (m : Nat) (k : IntKind)
    (h63 : xs.length + m ≤ maxLen) (hbytes : (xs.length + m) * bytes ≤ 140737488355328) (hbase : base ≤ w.heap.size) :
    ∃ v' w', (Builtin.append_ #[t, tn] ty #[v, .int k (m : Int)]).run P w = .ok v' w' ∧ OwnS enc T w' base v' (xs ++ List.replicate m d) ∧ w.grownBy w' v.ownBlock := by
  obtain ⟨i, hinf, hz0, hsz, hby⟩ := info_parts hi
  clear hi
  subst hby
  have hi := hinf
  have hw0 : IntKind.i64.wrap 0 = 0 := by decide
  have hml : m ≤ 9223372036854775807 := by unfold maxLen at h63; omega
  have hw : IntKind.i64.wrap (m : Int) = m := by rw [IntKind.wrap_i64]; omega
  have hneg : ¬ ((m : Int) < 0) := by omega
  have hmb : m * i.bytes ≤ 140737488355328 := Nat.le_trans (Nat.mul_le_mul_right _ (by omega)) hbytes
  have h48i : ¬ (281474976710656 < (m : Int) * (i.bytes : Int)) := by
    rw [← Int.natCast_mul]; omega
  have hzl := zeroCells_one (enc d) m
  rcases hown.2 with ⟨rfl, hn⟩ | ⟨g, cap, cur, rfl, hbg, hg, hnc, hcm, hcs, htake⟩
  · obtain rfl : xs = [] := List.eq_nil_of_length_eq_zero hn
    by_cases hm : m = 0
    · subst hm
      refine ⟨.slice none 0 0, w, ?_, OwnS.nil _ _, World.grownBy.refl w _⟩
      simp [Builtin.append_, run_underlying ht, run_underlying htn, sizeOf, typeInfo, hi, asInt, asIntOf, hw0]
    · have hr := Lib.run_append_nil_zeros (P := P) w t tn ty T i (enc d) k kn ht htn hi hz0 m (by omega) (by omega) (by omega) (by omega)
      have hge := grownCap_ge w m 0 T
      have hgm := grownCap_le_maxLen w m 0 T (by simpa using h63)
      refine ⟨_, _, hr, ⟨by simp, .inr ⟨w.heap.size, _, _, by simp, hbase, heap_alloc_new w.drew _, by simpa using hge, hgm, ?_, ?_⟩⟩, ((Ext.refl w).dr.al _) |> fun h => gb_ext h _⟩
      · rw [hd]; simp only [Array.size_append, size_zeroCells]; simp; omega
      · rw [hd]
        simp only [Array.toList_append, hzl]
        rw [List.take_left' (by simp)]
        simp
  · rw [Nat.mul_one] at hcs htake
    by_cases hroom : xs.length + m ≤ cap
    · obtain ⟨hb2, hg2⟩ := heap_setCells (List.replicate m (enc d)) xs.length cur w hg
      have hst := run_storeCells_cells (P := P) g xs.length (List.replicate m (enc d)) 0 w (fun j hj => by
        rw [blk_cell hg]
        simp at hj
        simp only [Nat.add_zero]
        rw [Array.getElem?_eq_getElem (by omega)]; rfl) (fun j hj => blk_fr hg _) (fun u hu => by rw [List.eq_of_mem_replicate hu]; exact hone)
      simp only [Nat.add_zero] at hst
      refine ⟨.slice (some ⟨g, 0, none⟩) (xs.length + m) cap, w.setCells g xs.length (List.replicate m (enc d)), ?_, ⟨by simp, .inr ⟨g, cap, _, by simp, hbg, hb2, by simpa using hroom, hcm, by rw [setArr_size]; omega, ?_⟩⟩, hg2⟩
      · by_cases hm : m = 0
        · subst hm
          simp [Builtin.append_, run_underlying ht, run_underlying htn, sizeOf, typeInfo, hi, asInt, asIntOf, hw0, hnc, storeCells, World.setCells]
        · simp [Builtin.append_, run_underlying ht, run_underlying htn, sizeOf, typeInfo, zeroValue, hi, hz0, hsz, asInt, asIntOf, hw, hneg, h48i, hm, hroom, hd, hzl, Addr.add_lit, hst]
      · apply List.ext_getElem?
        intro p
        simp only [List.length_append, List.length_replicate, Nat.mul_one, List.map_append, List.map_replicate]
        rw [List.getElem?_take, Array.getElem?_toList, setArr_get _ _ _ _ (by simp; omega)]
        simp only [List.length_replicate]
        have hx : ∀ q, q < xs.length → cur[q]? = (xs.map enc)[q]? := fun q hq => by
          have := congrArg (fun l => l[q]?) htake
          simp only [List.getElem?_take, Array.getElem?_toList, hq, if_true] at this
          exact this
        by_cases h1 : p < xs.length
        · rw [if_pos (by omega), if_neg (by omega), hx p h1, List.getElem?_append_left (by simpa using h1)]
        · by_cases h2 : p < xs.length + m
          · rw [if_pos h2, if_pos (by omega), List.getElem?_append_right (by simp; omega)]
            simp
          · rw [if_neg h2, List.getElem?_eq_none (by simp; omega)]
    · have holds : ∀ j u, (xs.map enc)[j]? = some u → w.cell? ((⟨g, 0, none⟩ : Addr).add j) = some u := World.ownsRow.cells (g := g) hown rfl
      have hfo := run_firstCells_some (P := P) w.drew i.size xs.length ⟨g, 0, none⟩ xs.length cap (xs.map enc) (by simp [hsz]) (by simpa using holds)
      rw [hsz] at hfo
      have hge := grownCap_ge w (xs.length + m) cap T
      have hgm := grownCap_le_maxLen w (xs.length + m) cap T h63
      have h48 := growslice_fits (show cap < xs.length + m by omega) hbytes
      have hm : m ≠ 0 := by omega
      have h63' : ¬ (9223372036854775807 < ((xs.length : Int) + (m : Int))) := by unfold maxLen at h63; omega
      have h48' : ¬ (281474976710656 < Builtin.nextslicecap (xs.length + m) cap * i.bytes) := by omega
      refine ⟨.slice (some ⟨w.heap.size, 0, none⟩) (xs.length + m) (grownCap w (xs.length + m) cap T), w.drew.alloc (.cells ((xs.map enc).toArray ++ Builtin.zeroCells (enc d).cells m ++ Builtin.zeroCells (enc d).cells (grownCap w (xs.length + m) cap T - (xs.length + m))) T), ?_, ⟨by simp, .inr ⟨w.heap.size, _, _, by simp, hbase, heap_alloc_new w.drew _, by simpa using hge, hgm, ?_, ?_⟩⟩, ((Ext.refl w).dr.al _) |> fun h => gb_ext h _⟩
      · simp [Builtin.append_, run_underlying ht, run_underlying htn, sizeOf, typeInfo, zeroValue, hi, hz0, hsz, asInt, asIntOf, hw, hneg, h48i, hm, hroom, h63', h48', Question.forced, hfo, newRow, grownCap]
      · rw [hd]; simp only [Array.size_append, size_zeroCells]; simp; omega
      · rw [hd]
        simp only [Array.toList_append, hzl, List.append_assoc]
        rw [← List.append_assoc, List.take_left' (by simp)]
        simp
theorem wpList_wanted {P : Program} {ops : Array Oper} {rest : List Oper} {o : Oper} {a : Act} {w : World} {Q : Exit → Act → World → Prop} (hw : Region.wanted o (yielded ops a.tmps) = true)
    (h : ∀ K : Act → World → Prop, (∀ a w, wpList P ops Q rest a w → K a w) → o.wp P a w K Q) : wpList P ops Q (o :: rest) a w := by
  unfold wpList
  rw [if_pos hw]
  exact .inl (h _ fun _ _ h => h)
theorem wpList_append_make_S {P : Program} {α : Type} {enc : α → Value} (d : α) (hd : (enc d).cells = #[enc d]) (hone : (enc d).oneCell' = true) {ops : Array Oper} {rest : List Oper} {o : Oper} {a : Act} {w : World} {Q : Exit → Act → World → Prop} (hgd : o.guard = none) (s x : Operand) (t tn T : TypeId) (kn : IntKind) (bytes base : Nat)
    (ho : o.op = .call { callee := .builtin .append, args := #[s, x], argTypes := #[t, tn] }) (ht : P.underlying t = some (.slice T)) (htn : P.underlying tn = some (.int kn))
    (hi : (P.info? T).map (fun i => (i.zero, i.size, i.bytes)) = some (some (enc d), 1, bytes)) {v : Value} {xs : List α} (hs : a.eval s = v) (hown : OwnS enc T w base v xs) (m : Nat) {k : IntKind} (hx : a.eval x = .int k (m : Int))
    (h63 : xs.length + m ≤ maxLen) (hbytes : (xs.length + m) * bytes ≤ 140737488355328) (hbase : base ≤ w.heap.size)
    (h : ∀ v' w', OwnS enc T w' base v' (xs ++ List.replicate m d) → w.grownBy w' v.ownBlock → wpList P ops Q rest (a.put o.dst v') w') : wpList P ops Q (o :: rest) a w := by
  refine wpList_plain hgd fun K hK => ?_
  obtain ⟨v', w', hr, h2, h3⟩ := run_append_make_S (P := P) d hd hone w base t tn o.type T kn bytes ht htn hi hown m k h63 hbytes hbase
  exact Lib.wp_append_run w s x t tn ho _ _ hs hx v' w' hr (hK _ _ (h v' w' h2 h3))
end Go.Proofs.Ytmcgcfbdofpfdaa
