/- The operations on byte arrays, as arms of a walk. Over any program. -/
import Derived.Test.YtoefpnmfeaimlaaMem
import Derived.Laws.BytesString
import Derived.Laws.IdiomStrings
namespace Go.Proofs.Ytoefpnmfeaimlaa
open Go.RowKit
section
variable {P : Program} {ops : Array Oper} {rest : List Oper} {op : Oper} {a : Act} {w : World} {Q : Exit → Act → World → Prop}

/-- An operation whose run is known. -/
theorem wpList_run (hg : op.guard = none) {v : Value} {w' : World} (hr : (execOp a.eval op).run P w = .ok (.value v) w') (h : wpList P ops Q rest (a.put op.dst v) w') : wpList P ops Q (op :: rest) a w :=
  wpList_plain hg fun _ hK => by
    unfold Oper.wp
    rw [hr]
    exact hK _ _ h
theorem wpList_run_skip (hg : op.guard = none) {w' : World} (hr : (execOp a.eval op).run P w = .ok .skip w') (h : wpList P ops Q rest (a.put op.dst undef) w') : wpList P ops Q (op :: rest) a w :=
  wpList_plain hg fun _ hK => by
    unfold Oper.wp
    rw [hr]
    exact hK _ _ h

theorem exec_load {t : TypeId} {x : Operand} (ho : op.op = .load t x) {p v : Value} {w' : World} (hx : a.eval x = p) (h : (Instr.loadAt t p).run P w = .ok v w') : (execOp a.eval op).run P w = .ok (.value v) w' := by
  unfold execOp
  simp only [ho, hx, Sem.run_bind, Sem.run_pure, h, Result.andThen_ok]
theorem exec_store {t : TypeId} {x y : Operand} (ho : op.op = .store t x y) {p v : Value} {w' : World} (hx : a.eval x = p) (hy : a.eval y = v) (h : (Instr.storeAt t p v).run P w = .ok () w') : (execOp a.eval op).run P w = .ok .skip w' := by
  unfold execOp
  simp only [ho, hx, hy, Sem.run_bind, Sem.run_pure, h, Result.andThen_ok]
theorem exec_update {t : TypeId} {m k x : Operand} (ho : op.op = .mapUpdate t m k x) {vm vk v : Value} {w' : World} (hm : a.eval m = vm) (hk : a.eval k = vk) (hx : a.eval x = v) (h : (Instr.mapUpdate t vm vk v).run P w = .ok () w') : (execOp a.eval op).run P w = .ok .skip w' := by
  unfold execOp
  simp only [ho, hm, hk, hx, Sem.run_bind, Sem.run_pure, h, Result.andThen_ok]
theorem exec_append {t tx : TypeId} {x y : Operand} (ho : op.op = .call { callee := .builtin .append, args := #[x, y], argTypes := #[t, tx] }) {p q v : Value} {w' : World} (hx : a.eval x = p) (hy : a.eval y = q) (h : (Builtin.append_ #[t, tx] op.type #[p, q]).run P w = .ok v w') :
    (execOp a.eval op).run P w = .ok (.value v) w' := by
  unfold execOp
  simp only [ho, resolve, invoke, builtin, Sem.run_bind, Sem.run_pure, Result.andThen_ok, List.map_toArray, List.map_cons, List.map_nil, hx, hy, h]
theorem oneCell_byteVs (t : List UInt8) : (byteVs t).toArray.all (·.oneCell') = true := by
  simp [byteVs, byteV, Value.oneCell']
theorem byteVs_length (t : List UInt8) : (byteVs t).length = t.length := by simp [byteVs]

/-- A whole array goes into the block that was made last. -/
theorem wpList_store_new (hg : op.guard = none) (ty : TypeId) (x y : Operand) (ho : op.op = .store ty x y) (c c' : Array Value) (w0 : World) (hw : w = w0.alloc (.cells c ty))
    (hx : a.eval x = .pointer (some ⟨w0.heap.size, 0, none⟩)) (hy : a.eval y = .agg c') (hi : (P.info? ty).map (·.size) = some c'.size) (hs : c.size = c'.size) (h1 : c'.all (·.oneCell') = true)
    (h : wpList P ops Q rest (a.put op.dst undef) (w0.alloc (.cells c' ty))) : wpList P ops Q (op :: rest) a w := by
  subst hw
  refine wpList_run_skip hg (w' := w0.alloc (.cells c' ty)) ?_ h
  unfold execOp
  simp only [ho, hx, hy, Sem.run_bind, Sem.run_pure, run_storeAt_new w0 ty c c' hi hs h1, Result.andThen_ok]

theorem foldl_push (t : List UInt8) : ∀ s : ByteArray, (t.map fun b => (b.toNat : Int)).foldl (fun (r : ByteArray) n => r.push (UInt8.ofNat n.toNat)) s = ⟨s.data ++ t.toArray⟩ := by
  induction t with
  | nil => intro s; simp
  | cons b t ih =>
    intro s
    simp only [List.map_cons, List.foldl_cons, ih]
    congr 1
    simp [ByteArray.push]
theorem foldl_empty (t : List UInt8) : (t.map fun b => (b.toNat : Int)).foldl (fun (r : ByteArray) n => r.push (UInt8.ofNat n.toNat)) ByteArray.empty = ⟨t.toArray⟩ := by
  rw [foldl_push]
  congr 1
  simp [ByteArray.empty, ByteArray.emptyWithCapacity]
  rfl
/-- 'string(b)' of bytes that lie in one block. -/
theorem run_bytesStr (src dst e : TypeId) (hs : P.underlying src = some (.slice e)) (he : P.underlying e = some (.int .u8)) (hd : P.underlying dst = some .string) (b o n cap : Nat) (t : List UInt8) (hl : t.length = n) (hr : w.rangeAt b o (byteVs t)) :
    (convert src dst (.slice (some ⟨b, o, none⟩) n cap)).run P w = .ok (strV t) w := by
  rw [run_convert_bytes_string w src dst e _ _ _ hs he hd]
  have hc : (loadCells ⟨b, o, none⟩ n).run P w = .ok ((t.map fun b => (b.toNat : Int)).map (Value.int .u8)).toArray w := by
    have h := run_loadCells_list (P := P) w ⟨b, o, none⟩ (byteVs t) (fun j v hv => by rw [Addr.add_mid]; exact hr j v hv)
    rw [byteVs_length, hl] at h
    rw [h]
    simp [byteVs, byteV, List.map_map, Function.comp_def]
  rw [run_bytesToString w _ _ _ _ hc, foldl_empty]
  rfl
theorem wpList_bytesStr (hg : op.guard = none) (src dst e : TypeId) (x : Operand) (ho : op.op = .convert src dst x) (hs : P.underlying src = some (.slice e)) (he : P.underlying e = some (.int .u8)) (hd : P.underlying dst = some .string)
    (b o n cap : Nat) (hx : a.eval x = .slice (some ⟨b, o, none⟩) n cap) (t : List UInt8) (hl : t.length = n) (hr : w.rangeAt b o (byteVs t))
    (h : wpList P ops Q rest (a.put op.dst (strV t)) w) : wpList P ops Q (op :: rest) a w := by
  refine wpList_run hg ?_ h
  unfold execOp
  simp only [ho, hx, Sem.run_bind, Sem.run_pure, run_bytesStr src dst e hs he hd b o n cap t hl hr, Result.andThen_ok]
/-- The bytes of a block are a range. -/
theorem range_of_block {b o : Nat} {c : Array Value} {t : TypeId} {fr : Nat × Nat} (hb : w.heap[b]? = some (.cells c t fr)) {l : List Value} (h : ∀ j, j < l.length → c[o + j]? = l[j]?) : w.rangeAt b o l := by
  intro j v hv
  have hj : j < l.length := (List.getElem?_eq_some_iff.1 hv).1
  rw [cell_blk hb, h j hj, hv]
/-- The capacity and the world behind '[]byte(s)'. -/
def convCap (e : TypeId) (s : List UInt8) (w : World) : Nat := grownCap w s.length 0 e
def convW (e : TypeId) (s : List UInt8) (w : World) : World :=
  w.drew.alloc (.cells (bytesRow ⟨s.toArray⟩ (grownCap w s.length 0 e)) e ((bytesRow ⟨s.toArray⟩ (grownCap w s.length 0 e)).size, (bytesRow ⟨s.toArray⟩ (grownCap w s.length 0 e)).size + 1))
theorem run_strBytes (src dst e : TypeId) (hs : P.underlying src = some .string) (hd : P.underlying dst = some (.slice e)) (he : P.underlying e = some (.int .u8)) (s : List UInt8) (W : World) :
    (convert src dst (.string ⟨s.toArray⟩)).run P W = .ok (.slice (some ⟨W.heap.size, 0, none⟩) s.length (convCap e s W)) (convW e s W) := by
  have h := run_bytes_of_string (P := P) W src dst e ⟨s.toArray⟩ hs hd he
  simp only [ByteArray.size, List.size_toArray] at h
  exact h
theorem convW_size (e : TypeId) (s : List UInt8) (w : World) : (convW e s w).heap.size = w.heap.size + 1 := by simp [convW]
theorem convW_heap (e : TypeId) (s : List UInt8) (w : World) (k : Nat) (hk : k < w.heap.size) : (convW e s w).heap[k]? = w.heap[k]? := by
  unfold convW
  rw [heap_alloc_lt _ _ _ (by simpa using hk)]
  rfl
theorem convW_fr (S : List Nat) (e : TypeId) (s : List UInt8) (w : World) : Fr S w (convW e s w) := ((Fr.refl S w).drew).alloc _
theorem convW_range (e : TypeId) (s : List UInt8) (w : World) : (convW e s w).rangeAt w.heap.size 0 (byteVs s) := by
  unfold convW
  refine range_of_block (heap_alloc_last w.drew _) (fun j hj => ?_)
  rw [byteVs_length] at hj
  simp only [bytesRow, byteVs]
  rw [Array.getElem?_append_left (by simpa using hj)]
  simp [hj, byteV]
theorem run_loadConv (ty e : TypeId) (s : List UInt8) (hs : s.length = 64) (h : (P.info? ty).map (·.size) = some 64) (hu : P.underlying ty = some (.array 64 e)) (W : World) :
    (Instr.loadAt ty (.pointer (some ⟨W.heap.size, 0, none⟩))).run P (convW e s W) = .ok (.agg (byteVs s).toArray) (convW e s W) :=
  run_loadAt_mid _ _ _ _ _ _ (convW_range e s W) hu rfl (by rw [h, byteVs_length, hs])
end
end Go.Proofs.Ytoefpnmfeaimlaa
