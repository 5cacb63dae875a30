/- The contract of start: a disk of the program and one of the specification. -/
import Derived.Test.YtoefpnmfeaimlaaDsk
import Derived.Test.YtoefpnmfeaimlaaRef10
namespace Go.Proofs.Ytoefpnmfeaimlaa
open Go.RowKit Dk

/-- r is a disk of the specification of the law's own that reads as D. -/
def RDk (w W : World) (r : RF) (D : DS) : Prop := RAt W r D ∧ Below w.heap.size w W ∧ ∀ b ∈ r.blks, w.heap.size ≤ b
theorem RDk.mut {w W W' : World} {f : RF} {D D' : DS} (h : RDk w W f D) (hd : RAt W' f D') (k : Fr f.blks W W') : RDk w W' f D' := ⟨hd, below_of_fr h.2.1 h.2.2 k, h.2.2⟩
theorem RDk.other {w W W' : World} {f : RF} {D : DS} (h : RDk w W f D) {S : List Nat} (k : Fr S W W') (hs : ∀ b ∈ S, w.heap.size ≤ b) (hd : ∀ b ∈ f.blks, b ∉ S) : RDk w W' f D := ⟨h.1.fr k hd, below_of_fr h.2.1 hs k, h.2.2⟩
theorem RDk.quiet {w W W' : World} {f : RF} {D : DS} (h : RDk w W f D) (k : Fr [] W W') : RDk w W' f D := h.other k (by simp) (by simp)

theorem r_new {w W : World} (hb : Below w.heap.size w W) (n : Nat) (hn : 1 ≤ n) (hn2 : n ≤ 4096) :
    Calls Try.prog 36 #[.int .i64 n] W fun e W' => ∃ f : RF, e = .returned (.tuple #[.pointer (some ⟨f.p, 0, none⟩), .int .i64 0]) ∧ RDk w W' f (DS.new n) ∧ (∀ b ∈ f.blks, W.heap.size ≤ b) ∧ Fr [] W W' :=
  (rnew_any n hn hn2).mono fun _ _ ⟨f, h1, h2, h3, h4⟩ => ⟨f, h1, ⟨h2, hb.trans (h3.mono hb.size), fun b hb' => Nat.le_trans hb.size (h4 b hb')⟩, h4, Fr.of_below h3⟩

theorem start_none {w : World} (n : Int) (hn : n < 1 ∨ 64 < n) :
    Calls Try.prog 19 #[.int .i64 n] w fun e w' => e = .returned (.tuple #[.pointer none, .pointer none, .bool false]) ∧ w = w' := by
  rcases hn with h | h
  · go_enter Try.func19, Try.ntmps19
    go_wp2
    go_ret3
    exact ⟨rfl, rfl⟩
  · have h' : 1 ≤ n := by omega
    go_enter Try.func19, Try.ntmps19
    go_wp2
    go_ret3
    exact ⟨rfl, rfl⟩

set_option maxRecDepth 100000 in
theorem start_any {w W : World} (hb : Below w.heap.size w W) (n : Nat) (hn : (1 : Int) ≤ n) (hn2 : (n : Int) ≤ 64) :
    Calls Try.prog 19 #[.int .i64 n] W fun e W' => ∃ (f : DF) (r : RF), e = .returned (.tuple #[.pointer (some ⟨f.p, 0, none⟩), .pointer (some ⟨r.p, 0, none⟩), .bool true]) ∧ Dsk w W' f (DS.new n) ∧ RDk w W' r (DS.new n) ∧ (∀ b ∈ r.blks, b ∉ f.blks) ∧ Fr [] W W' := by
  have HB := Lib.hid hb
  clear hb
  go_enter Try.func19, Try.ntmps19
  go_wp2_with (first
    | (go_at_call 9; refine (d_new HB.out n (by omega) (by omega)).mono ?_; rintro e W1 ⟨f, rfl, hd, hfb, hf1⟩; have HD := Lib.hid hd; have HF1 := Lib.hid hf1; clear hd hfb hf1)
    | (go_at_call 36; refine (r_new HD.out.2.1 n (by omega) (by omega)).mono ?_; rintro e W2 ⟨r, rfl, hr, hrb, hf2⟩; have HR := Lib.hid hr; have HRB := Lib.hid hrb; have HF2 := Lib.hid hf2; clear hr hrb hf2))
  go_ret3
  refine ⟨f, r, rfl, HD.out.quiet HF2.out, HR.out, fun b hb hf => ?_, HF1.out.trans HF2.out⟩
  have := HD.out.1.lt b hf
  have := HRB.out b hb
  omega
end Go.Proofs.Ytoefpnmfeaimlaa
