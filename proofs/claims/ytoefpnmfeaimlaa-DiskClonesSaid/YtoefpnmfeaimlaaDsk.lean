/- The contracts, told of a disk that the law itself has made. -/
import Derived.Test.YtoefpnmfeaimlaaLaw0
import Derived.Test.YtoefpnmfeaimlaaNewD
import Derived.Test.YtoefpnmfeaimlaaClone
namespace Go.Proofs.Ytoefpnmfeaimlaa
open Go.RowKit Dk

/-- f is a disk of the law's own (of nothing that lay in w) that reads as D; nothing that lay in w has turned. -/
def Dsk (w W : World) (f : DF) (D : DS) : Prop := DiskAt W f D ∧ Below w.heap.size w W ∧ ∀ b ∈ f.blks, w.heap.size ≤ b
theorem Dsk.below {w W : World} {f : DF} {D : DS} (h : Dsk w W f D) : Below w.heap.size w W := h.2.1
theorem below_of_fr {w W W' : World} {S : List Nat} (h : Below w.heap.size w W) (hs : ∀ b ∈ S, w.heap.size ≤ b) (k : Fr S W W') : Below w.heap.size w W' := h.trans (k.below h.size hs)
theorem Dsk.mut {w W W' : World} {f : DF} {D D' : DS} (h : Dsk w W f D) (hd : DiskAt W' f D') (k : Fr f.blks W W') : Dsk w W' f D' := ⟨hd, below_of_fr h.2.1 h.2.2 k, h.2.2⟩
theorem Dsk.quiet {w W W' : World} {f : DF} {D : DS} (h : Dsk w W f D) (k : Fr [] W W') : Dsk w W' f D := ⟨h.1.fr k (by simp), below_of_fr h.2.1 (by simp) k, h.2.2⟩
theorem Dsk.grow {w W W' : World} {f : DF} {D : DS} (h : Dsk w W f D) (k : Below W.heap.size W W') : Dsk w W' f D := h.quiet (Fr.of_below k)
/-- While another thing turns. -/
theorem Dsk.other {w W W' : World} {f : DF} {D : DS} (h : Dsk w W f D) {S : List Nat} (k : Fr S W W') (hs : ∀ b ∈ S, w.heap.size ≤ b) (hd : ∀ b ∈ f.blks, b ∉ S) : Dsk w W' f D := ⟨h.1.fr k hd, below_of_fr h.2.1 hs k, h.2.2⟩

section
variable {w W : World} {f : DF} {D : DS} (h : Dsk w W f D)
include h
theorem d_read {i : Int} {t : List UInt8} {r : Int} (e1 : D.read i = (t, r)) :
    Calls Try.prog 11 #[.pointer (some ⟨f.p, 0, none⟩), .int .i64 i] W fun e W' => e = .returned (.tuple #[strV t, .int .i64 r]) ∧ Fr [] W W' := by
  have := read_any h.1 i
  rw [e1] at this
  exact this
theorem d_write {i : Int} {s : List UInt8} {r : Int} {D' : DS} (e1 : D.writeE i s = r) (e2 : D.write i s = D') :
    Calls Try.prog 12 #[.pointer (some ⟨f.p, 0, none⟩), .int .i64 i, strV s] W fun e W' => e = .returned (.int .i64 r) ∧ Dsk w W' f D' ∧ Fr f.blks W W' := by
  subst e1; subst e2
  exact (write_any h.1 i s).mono fun e W' ⟨h1, h2, h3⟩ => ⟨h1, h.mut h2 h3, h3⟩
theorem d_flush {r : Int} {D' : DS} (e1 : D.flushE = r) (e2 : D.flush = D') :
    Calls Try.prog 22 #[.pointer (some ⟨f.p, 0, none⟩)] W fun e W' => e = .returned (.int .i64 r) ∧ Dsk w W' f D' ∧ Fr f.blks W W' := by
  subst e1; subst e2
  exact (flush_any h.1).mono fun e W' ⟨h1, h2, h3⟩ => ⟨h1, h.mut h2 h3, h3⟩
theorem d_mount {v : Value} {picks : List Int} {D' : DS} (hp : IntsIn W f.blks v picks) (e2 : D.mount picks = D') :
    Calls Try.prog 23 #[.pointer (some ⟨f.p, 0, none⟩), v] W fun e W' => e = .returned (.tuple #[]) ∧ Dsk w W' f D' ∧ Fr f.blks W W' := by
  subst e2
  exact (mount_any h.1 v picks hp).mono fun e W' ⟨h1, h2, h3⟩ => ⟨h1, h.mut h2 h3, h3⟩
theorem d_rot {i b : Int} {r : Int} {D' : DS} (e1 : D.rotE i b = r) (e2 : D.rot i b = D') :
    Calls Try.prog 14 #[.pointer (some ⟨f.p, 0, none⟩), .int .i64 i, .int .i64 b] W fun e W' => e = .returned (.int .i64 r) ∧ Dsk w W' f D' ∧ Fr f.blks W W' := by
  subst e1; subst e2
  exact (rot_any h.1 i b).mono fun e W' ⟨h1, h2, h3⟩ => ⟨h1, h.mut h2 h3, h3⟩
theorem d_wear {i : Int} {r : Int} {D' : DS} (e1 : D.wearE i = r) (e2 : D.wear i = D') :
    Calls Try.prog 15 #[.pointer (some ⟨f.p, 0, none⟩), .int .i64 i] W fun e W' => e = .returned (.int .i64 r) ∧ Dsk w W' f D' ∧ Fr f.blks W W' := by
  subst e1; subst e2
  exact (wear_any h.1 i).mono fun e W' ⟨h1, h2, h3⟩ => ⟨h1, h.mut h2 h3, h3⟩
theorem d_trip {i : Int} (hi : i ≤ 9223372036854775807) {D' : DS} (e2 : D.trip i = D') :
    Calls Try.prog 29 #[.pointer (some ⟨f.p, 0, none⟩), .int .i64 i] W fun e W' => e = .returned (.tuple #[]) ∧ Dsk w W' f D' ∧ Fr f.blks W W' := by
  subst e2
  exact (trip_any h.1 i hi).mono fun e W' ⟨h1, h2, h3⟩ => ⟨h1, h.mut h2 h3, h3⟩
theorem d_image {l : List (List UInt8)} (e1 : D.image = l) :
    Calls Try.prog 10 #[.pointer (some ⟨f.p, 0, none⟩)] W fun e W' => ∃ v, e = .returned v ∧ StrsAt W' W.heap.size v l ∧ Fr [] W W' := by
  subst e1
  exact (image_any h.1).mono fun e W' ⟨v, h1, h2, h3⟩ => ⟨v, h1, h2, Fr.of_below h3⟩
theorem d_pending {l : List Nat} (e1 : D.pend = l) :
    Calls Try.prog 17 #[.pointer (some ⟨f.p, 0, none⟩)] W fun e W' => ∃ v, e = .returned v ∧ IntsAt W' W.heap.size v (ints l) ∧ Fr [] W W' := by
  subst e1
  exact (pending_any h.1).mono fun e W' ⟨v, h1, h2, h3⟩ => ⟨v, h1, h2, Fr.of_below h3⟩
theorem d_worn {l : List Nat} (e1 : D.wornL = l) :
    Calls Try.prog 18 #[.pointer (some ⟨f.p, 0, none⟩)] W fun e W' => ∃ v, e = .returned v ∧ IntsAt W' W.heap.size v (ints l) ∧ Fr [] W W' := by
  subst e1
  exact (worn_any h.1).mono fun e W' ⟨v, h1, h2, h3⟩ => ⟨v, h1, h2, Fr.of_below h3⟩
theorem d_clone :
    Calls Try.prog 26 #[.pointer (some ⟨f.p, 0, none⟩)] W fun e W' => ∃ f' : DF, e = .returned (.pointer (some ⟨f'.p, 0, none⟩)) ∧ Dsk w W' f' D ∧ Dsk w W' f D ∧ (∀ b ∈ f'.blks, b ∉ f.blks) ∧ Fr [] W W' := by
  refine (clone_any h.1).mono fun e W' ⟨f', h1, h2, h3, h4⟩ => ⟨f', h1, ⟨h2, h.2.1.trans (h3.mono h.2.1.size), fun b hb => Nat.le_trans h.2.1.size (h4 b hb)⟩, h.grow h3, fun b hb hf => ?_, Fr.of_below h3⟩
  have := h.1.lt b hf
  have := h4 b hb
  omega
theorem d_len : Calls Try.prog 30 #[.pointer (some ⟨f.p, 0, none⟩)] W fun e w' => e = .returned (.int .i64 D.s.length) ∧ W = w' := len_any h.1
theorem d_up : Calls Try.prog 25 #[.pointer (some ⟨f.p, 0, none⟩)] W fun e w' => e = .returned (.bool (!D.off)) ∧ W = w' := up_any h.1
end
theorem d_new {w W : World} (hb : Below w.heap.size w W) (n : Nat) (hn : 1 ≤ n) (hn2 : n ≤ 4096) :
    Calls Try.prog 9 #[.int .i64 n] W fun e W' => ∃ f : DF, e = .returned (.tuple #[.pointer (some ⟨f.p, 0, none⟩), .int .i64 0]) ∧ Dsk w W' f (DS.new n) ∧ (∀ b ∈ f.blks, W.heap.size ≤ b) ∧ Fr [] W W' :=
  (new_any n hn hn2).mono fun _ _ ⟨f, h1, h2, h3, h4⟩ => ⟨f, h1, ⟨h2, hb.trans (h3.mono hb.size), fun b hb' => Nat.le_trans hb.size (h4 b hb')⟩, h4, Fr.of_below h3⟩
theorem d_full {W : World} (n : Int) (c : UInt8) (hn : n = c.toNat) {s : List UInt8} (hs : List.replicate 64 c = s) :
    Calls Try.prog 13 #[.int .u8 n] W fun e W' => e = .returned (strV s) ∧ Fr [] W W' := by
  subst hs
  exact (full_any n c hn).mono fun e W' ⟨h1, h2⟩ => ⟨h1, Fr.of_below h2⟩
end Go.Proofs.Ytoefpnmfeaimlaa
