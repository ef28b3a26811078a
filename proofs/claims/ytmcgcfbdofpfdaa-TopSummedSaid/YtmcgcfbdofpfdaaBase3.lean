/- More words: strings as bytes; make with no length; append of a string. -/
import Derived.Test.YtmcgcfbdofpfdaaBase2
import Derived.Lib.ConvBytes
import Derived.Lib.AppendStr
namespace Go.Proofs.Ytmcgcfbdofpfdaa
open Go.RowKit
theorem bytesWorld_ext (w : World) (e : TypeId) (s : ByteArray) : Ext w (Lib.bytesWorld w e s) :=
  ⟨rfl, rfl, rfl, by rw [Lib.bytesWorld_size]; omega, fun k hk => Lib.bytesWorld_at_old w e s k hk⟩
theorem bytesWorld_rd (w : World) (e : TypeId) (s : ByteArray) : RdS vB (Lib.bytesWorld w e s) (some ⟨w.heap.size, 0, none⟩) s.data.toList := fun _ =>
  ⟨w.heap.size, 0, rfl, by rw [Lib.bytesWorld_size]; omega, fun k hk => by
    rw [Nat.zero_add, Lib.bytesWorld_cell w e s k (by simpa using hk)]
    unfold vB b8
    have hk' : k < s.data.size := by simpa using hk
    simp [List.getD, Array.getElem?_eq_getElem hk']⟩
theorem wpList_convert_S {P : Program} {ops : Array Oper} {rest : List Oper} {o : Oper} {a : Act} {w : World} {Q : Exit → Act → World → Prop} (hgd : o.guard = none) (src dst T : TypeId) (x : Operand) (ho : o.op = .convert src dst x)
    {u : TypeDesc} (hs : P.underlying src = some u) (hd : P.underlying dst = some (.slice T)) (he : P.underlying T = some (.int .u8)) {s : ByteArray} (hx : a.eval x = .string s)
    (h63 : s.size ≤ maxLen) (h : ∀ c w', s.size ≤ c → c ≤ maxLen → RdS vB w' (some ⟨w.heap.size, 0, none⟩) s.data.toList → Ext w w' → wpList P ops Q rest (a.put o.dst (.slice (some ⟨w.heap.size, 0, none⟩) s.size c)) w') : wpList P ops Q (o :: rest) a w := by
  refine wpList_plain hgd fun K hK => ?_
  have hrun := Lib.run_convert_string_bytes (P := P) w src dst T s hs hd he
  unfold Oper.wp execOp
  simp only [ho, hx, Sem.run_bind, Sem.run_pure, Result.andThen_ok, hrun]
  exact hK _ _ (h _ _ (grownCap_ge w s.size 0 T) (grownCap_le_maxLen w s.size 0 T h63) (bytesWorld_rd w T s) (bytesWorld_ext w T s))
theorem wpList_make0_S {P : Program} {α : Type} {enc : α → Value} {ops : Array Oper} {rest : List Oper} {o : Oper} {a : Act} {w : World} {Q : Exit → Act → World → Prop}
    (hg : o.guard = none) (l c : Operand) (t T : TypeId) (z : Value) (bytes : Nat) (base : Nat) (hop : o.op = Op.makeSlice t l c) (ht : P.underlying t = some (.slice T))
    (hi : (P.info? T).map (fun i => (i.zero, i.size, i.bytes)) = some (some z, 1, bytes))
    (n : Nat) {kl kc : IntKind} {C : Int} (hl : a.eval l = .int kl 0) (hc : a.eval c = .int kc C) (hC : C = (n : Int)) (b2 : bytes * n ≤ 281474976710656) (b3 : n ≤ maxLen) (b4 : base ≤ w.heap.size)
    (hK : ∀ w', OwnS enc T w' base (.slice (some ⟨w.heap.size, 0, none⟩) 0 n) ([] : List α) → Ext w w' → wpList P ops Q rest (a.put o.dst (.slice (some ⟨w.heap.size, 0, none⟩) 0 n)) w') :
    wpList P ops Q (o :: rest) a w := by
  obtain ⟨i, hi, hz0, hsz, hby⟩ := info_parts hi
  refine wpList_make_own w hg l c t hop base T i z 1 ht hi hz0 hsz kl kc C n hl hc hC (by rw [hby]; exact b2) b3 b4 ?_
  intro w' ho hg'
  exact hK w' ho ⟨hg'.os, hg'.tape, hg'.output, hg'.size, fun k hk => hg'.block k hk (by simp)⟩
theorem wpList_append_str_S {P : Program} {ops : Array Oper} {rest : List Oper} {o : Oper} {a : Act} {w : World} {Q : Exit → Act → World → Prop} (hgd : o.guard = none) (sl x : Operand) (t u T : TypeId) (base : Nat)
    (ho : o.op = .call { callee := .builtin .append, args := #[sl, x], argTypes := #[t, u] }) (ht : P.underlying t = some (.slice T)) (hu : P.underlying u = some .string)
    (hi : (P.info? T).map (fun i => (i.zero, i.size, i.bytes)) = some (some (.int .u8 0), 1, 1))
    {v : Value} {xs : List UInt8} (hs : a.eval sl = v) (hown : OwnS vB T w base v xs) {s : ByteArray} (hx : a.eval x = .string s)
    (h63 : xs.length + s.size ≤ 140737488355328) (hbase : base ≤ w.heap.size)
    (h : ∀ v' w', OwnS vB T w' base v' (xs ++ s.data.toList) → w.grownBy w' v.ownBlock → wpList P ops Q rest (a.put o.dst v') w') : wpList P ops Q (o :: rest) a w := by
  obtain ⟨i, hi, hz0, hsz, hby⟩ := info_parts hi
  refine Lib.wpList_append_own_string (P := P) w hgd sl x t u ho base T i ht hu hi hz0 hsz hby v xs.length (xs.map vB) hs hown s hx (by simp only [maxLen]; omega) h63 hbase ?_
  intro v' w' ho' hg _
  refine h v' w' ?_ hg
  unfold OwnS
  have e : (xs ++ s.data.toList).map vB = xs.map vB ++ Lib.strCells s := by
    rw [List.map_append]; rfl
  rw [e, List.length_append, Array.length_toList]
  exact ho'
end Go.Proofs.Ytmcgcfbdofpfdaa
