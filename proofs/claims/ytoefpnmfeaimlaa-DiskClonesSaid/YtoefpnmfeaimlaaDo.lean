/- The contract of do: an operation of a script, made on the program's disk. -/
import Derived.Test.YtoefpnmfeaimlaaDsk
import Derived.Test.YtoefpnmfeaimlaaMix2
import Derived.Test.YtoefpnmfeaimlaaTxt
namespace Go.Proofs.Ytoefpnmfeaimlaa
open Go.RowKit Dk

attribute [local irreducible] wpMix

theorem IntsIn.grow {w w' : World} {S : List Nat} {v : Value} {l : List Int} (h : IntsIn w S v l) (k : Below w.heap.size w w') : IntsIn w' S v l := h.fr (Fr.of_below k)

set_option maxRecDepth 100000 in
theorem do_write {W : World} (p : Nat) (i b : Int) (s t : List UInt8) (a : Option Addr) (n cap : Nat) (ht : padTo s = t) (S : List Nat) (hS : Hid (∀ b ∈ S, b < W.heap.size)) (r : Int) (Q : World → Prop)
    (H : Hid (∀ W0 : World, Below W.heap.size W W0 → Calls Try.prog 12 #[.pointer (some ⟨p, 0, none⟩), .int .i64 i, strV t] W0 fun e W' => e = .returned (.int .i64 r) ∧ Fr S W0 W' ∧ Q W')) :
    Calls Try.prog 20 #[.pointer (some ⟨p, 0, none⟩), .agg #[.int .i64 1, .int .i64 i, .int .i64 b, strV s, .slice a n cap]] W fun e W' => e = .returned (.tuple #[.string ⟨#[]⟩, .int .i64 r]) ∧ Q W' := by
  have ht' := Lib.hid ht
  clear ht
  go_enter Try.func20, Try.ntmps20
  unfold strV
  go_wp2
  have hb0 := heap_alloc_last W (.cells #[.int .i64 1, .int .i64 i, .int .i64 b, .string ⟨s.toArray⟩, .slice a n cap] 44)
  have B0 := Lib.hid hb0
  clear hb0
  refine wp_region_mixes (fun w => w.heap[W.heap.size]? = some (.cells #[.int .i64 1, .int .i64 i, .int .i64 b, .string ⟨s.toArray⟩, .slice a n cap] 44 (0, 0)))
    [(true, 0), (true, 1), (true, 2), (true, 3), (false, 4), (false, 5), (false, 6), (false, 7)] (by kernel_rfl) (by kernel_rfl) B0.out ?_
  repeat (apply wpMix_take rfl rfl; (focus (rintro w d; have d0 := cell_blk d 0; have d1 := cell_blk d 1; have d2 := cell_blk d 2; have d3 := cell_blk d 3; have d4 := cell_blk d 4; go_simp; rfl)); intro K' hK; go_simp; refine hK _ _ ?_; clear hK K')
  refine wpMix_go rfl rfl (fun K' hK => ?_)
  go_simp
  refine (text_any 1 i b s a n cap).mono ?_
  rintro e w1 ⟨rfl, b1⟩
  rw [ht'.out]
  have hb1 : w1.heap[W.heap.size]? = _ := (b1.block _ (by simp)).trans B0.out
  have B1 := Lib.hid hb1
  have L1 : Hid (Below W.heap.size W w1) := (((Below.refl _ _).alloc (Nat.le_refl _) _).drew).trans (b1.mono (by simp))
  clear hb1 b1
  unfold strV
  refine hK _ _ ⟨B1.out, ?_⟩
  clear hK K'
  refine wpMix_go rfl rfl (fun K' hK => ?_)
  go_simp
  refine (H.out _ L1.out).mono ?_
  rintro e w2 ⟨rfl, b2, hq⟩
  have hb2 := (b2.block _ (lt_of_heap B1.out) (fun h => by have := hS.out _ h; omega)).trans B1.out
  have B2 := Lib.hid hb2
  have HQ := Lib.hid hq
  clear hb2 hq b2
  refine hK _ _ ⟨B2.out, ?_⟩
  clear hK K'
  refine wpMix_go rfl rfl (fun K' hK => ?_)
  go_simp
  refine hK _ _ ⟨B2.out, ?_⟩
  clear hK K'
  refine wpMix_go rfl rfl (fun K' hK => ?_)
  go_simp
  refine hK _ _ ⟨B2.out, ?_⟩
  clear hK K'
  refine wpMix_nil ?_
  go_wp2
  go_ret2
  exact ⟨rfl, HQ.out⟩

set_option maxRecDepth 100000 in
theorem do_read {W : World} (p : Nat) (i b : Int) (s : List UInt8) (a : Option Addr) (n cap : Nat) (t : List UInt8) (r : Int) (Q : World → Prop)
    (H : Hid (∀ W0 : World, Below W.heap.size W W0 → Calls Try.prog 11 #[.pointer (some ⟨p, 0, none⟩), .int .i64 i] W0 fun e W' => e = .returned (.tuple #[.string ⟨t.toArray⟩, .int .i64 r]) ∧ Q W')) :
    Calls Try.prog 20 #[.pointer (some ⟨p, 0, none⟩), .agg #[.int .i64 2, .int .i64 i, .int .i64 b, strV s, .slice a n cap]] W fun e W' => e = .returned (.tuple #[.string ⟨t.toArray⟩, .int .i64 r]) ∧ Q W' := by
  have hb : ∀ o, Below W.heap.size W (W.alloc o) := fun o => (Below.refl _ _).alloc (Nat.le_refl _) o
  have HB := Lib.hid hb
  clear hb
  go_enter Try.func20, Try.ntmps20
  unfold strV
  go_wp2_with (go_at_call 11; refine (H.out _ (HB.out _)).mono ?_; rintro e W' ⟨rfl, hq⟩; have HQ := Lib.hid hq; clear hq)
  go_ret2
  exact ⟨rfl, HQ.out⟩

set_option maxRecDepth 100000 in
theorem do_flush {W : World} (p : Nat) (i b : Int) (s : List UInt8) (a : Option Addr) (n cap : Nat) (r : Int) (Q : World → Prop)
    (H : Hid (∀ W0 : World, Below W.heap.size W W0 → Calls Try.prog 22 #[.pointer (some ⟨p, 0, none⟩)] W0 fun e W' => e = .returned (.int .i64 r) ∧ Q W')) :
    Calls Try.prog 20 #[.pointer (some ⟨p, 0, none⟩), .agg #[.int .i64 3, .int .i64 i, .int .i64 b, strV s, .slice a n cap]] W fun e W' => e = .returned (.tuple #[.string ⟨#[]⟩, .int .i64 r]) ∧ Q W' := by
  have hb : ∀ o, Below W.heap.size W (W.alloc o) := fun o => (Below.refl _ _).alloc (Nat.le_refl _) o
  have HB := Lib.hid hb
  clear hb
  go_enter Try.func20, Try.ntmps20
  unfold strV
  go_wp2_with (go_at_call 22; refine (H.out _ (HB.out _)).mono ?_; rintro e W' ⟨rfl, hq⟩; have HQ := Lib.hid hq; clear hq)
  go_ret2
  exact ⟨rfl, HQ.out⟩

set_option maxRecDepth 100000 in
theorem do_trip {W : World} (p : Nat) (i b : Int) (s : List UInt8) (a : Option Addr) (n cap : Nat) (Q : World → Prop)
    (H : Hid (∀ W0 : World, Below W.heap.size W W0 → Calls Try.prog 29 #[.pointer (some ⟨p, 0, none⟩), .int .i64 i] W0 fun e W' => e = .returned (.tuple #[]) ∧ Q W')) :
    Calls Try.prog 20 #[.pointer (some ⟨p, 0, none⟩), .agg #[.int .i64 4, .int .i64 i, .int .i64 b, strV s, .slice a n cap]] W fun e W' => e = .returned (.tuple #[.string ⟨#[]⟩, .int .i64 0]) ∧ Q W' := by
  have hb : ∀ o, Below W.heap.size W (W.alloc o) := fun o => (Below.refl _ _).alloc (Nat.le_refl _) o
  have HB := Lib.hid hb
  clear hb
  go_enter Try.func20, Try.ntmps20
  unfold strV
  go_wp2_with (go_at_call 29; refine (H.out _ (HB.out _)).mono ?_; rintro e W' ⟨rfl, hq⟩; have HQ := Lib.hid hq; clear hq)
  go_ret2
  exact ⟨rfl, HQ.out⟩

set_option maxRecDepth 100000 in
theorem do_mount {W : World} (p : Nat) (i b : Int) (s : List UInt8) (a : Option Addr) (n cap : Nat) (Q : World → Prop)
    (H : Hid (∀ W0 : World, Below W.heap.size W W0 → Calls Try.prog 23 #[.pointer (some ⟨p, 0, none⟩), .slice a n cap] W0 fun e W' => e = .returned (.tuple #[]) ∧ Q W')) :
    Calls Try.prog 20 #[.pointer (some ⟨p, 0, none⟩), .agg #[.int .i64 5, .int .i64 i, .int .i64 b, strV s, .slice a n cap]] W fun e W' => e = .returned (.tuple #[.string ⟨#[]⟩, .int .i64 0]) ∧ Q W' := by
  have hb : ∀ o, Below W.heap.size W (W.alloc o) := fun o => (Below.refl _ _).alloc (Nat.le_refl _) o
  have HB := Lib.hid hb
  clear hb
  go_enter Try.func20, Try.ntmps20
  unfold strV
  go_wp2_with (go_at_call 23; refine (H.out _ (HB.out _)).mono ?_; rintro e W' ⟨rfl, hq⟩; have HQ := Lib.hid hq; clear hq)
  go_ret2
  exact ⟨rfl, HQ.out⟩

set_option maxRecDepth 100000 in
theorem do_rot {W : World} (p : Nat) (i b : Int) (s : List UInt8) (a : Option Addr) (n cap : Nat) (r : Int) (Q : World → Prop)
    (H : Hid (∀ W0 : World, Below W.heap.size W W0 → Calls Try.prog 14 #[.pointer (some ⟨p, 0, none⟩), .int .i64 i, .int .i64 b] W0 fun e W' => e = .returned (.int .i64 r) ∧ Q W')) :
    Calls Try.prog 20 #[.pointer (some ⟨p, 0, none⟩), .agg #[.int .i64 6, .int .i64 i, .int .i64 b, strV s, .slice a n cap]] W fun e W' => e = .returned (.tuple #[.string ⟨#[]⟩, .int .i64 r]) ∧ Q W' := by
  have hb : ∀ o, Below W.heap.size W (W.alloc o) := fun o => (Below.refl _ _).alloc (Nat.le_refl _) o
  have HB := Lib.hid hb
  clear hb
  go_enter Try.func20, Try.ntmps20
  unfold strV
  go_wp2_with (go_at_call 14; refine (H.out _ (HB.out _)).mono ?_; rintro e W' ⟨rfl, hq⟩; have HQ := Lib.hid hq; clear hq)
  go_ret2
  exact ⟨rfl, HQ.out⟩

set_option maxRecDepth 100000 in
theorem do_wear {W : World} (p : Nat) (i b : Int) (s : List UInt8) (a : Option Addr) (n cap : Nat) (r : Int) (Q : World → Prop)
    (H : Hid (∀ W0 : World, Below W.heap.size W W0 → Calls Try.prog 15 #[.pointer (some ⟨p, 0, none⟩), .int .i64 i] W0 fun e W' => e = .returned (.int .i64 r) ∧ Q W')) :
    Calls Try.prog 20 #[.pointer (some ⟨p, 0, none⟩), .agg #[.int .i64 7, .int .i64 i, .int .i64 b, strV s, .slice a n cap]] W fun e W' => e = .returned (.tuple #[.string ⟨#[]⟩, .int .i64 r]) ∧ Q W' := by
  have hb : ∀ o, Below W.heap.size W (W.alloc o) := fun o => (Below.refl _ _).alloc (Nat.le_refl _) o
  have HB := Lib.hid hb
  clear hb
  go_enter Try.func20, Try.ntmps20
  unfold strV
  go_wp2_with (go_at_call 15; refine (H.out _ (HB.out _)).mono ?_; rintro e W' ⟨rfl, hq⟩; have HQ := Lib.hid hq; clear hq)
  go_ret2
  exact ⟨rfl, HQ.out⟩

set_option maxRecDepth 100000 in
theorem do_none {W : World} (p : Nat) (k i b : Int) (s : List UInt8) (a : Option Addr) (n cap : Nat) (h1 : (k == 1) = false) (h2 : (k == 2) = false) (h3 : (k == 3) = false) (h4 : (k == 4) = false) (h5 : (k == 5) = false) (h6 : (k == 6) = false) (h7 : (k == 7) = false) :
    Calls Try.prog 20 #[.pointer (some ⟨p, 0, none⟩), .agg #[.int .i64 k, .int .i64 i, .int .i64 b, strV s, .slice a n cap]] W fun e W' => e = .returned (.tuple #[.string ⟨#[]⟩, .int .i64 0]) ∧ Below W.heap.size W W' := by
  have hb : ∀ o, Below W.heap.size W (W.alloc o) := fun o => (Below.refl _ _).alloc (Nat.le_refl _) o
  have HB := Lib.hid hb
  clear hb
  go_enter Try.func20, Try.ntmps20
  unfold strV
  go_wp2
  go_ret2
  exact ⟨rfl, HB.out _⟩

def Dk.OpD.v (o : OpD) (pv : Value) : Value := .agg #[.int .i64 o.kind, .int .i64 o.i, .int .i64 o.bit, strV o.text, pv]

theorem do_any {w W : World} {f : DF} {D : DS} (h : Dsk w W f D) (o : OpD) (pv : Value) (hp : IntsIn W f.blks pv o.picks) (hi : o.i ≤ 9223372036854775807) :
    Calls Try.prog 20 #[.pointer (some ⟨f.p, 0, none⟩), o.v pv] W fun e W' => e = .returned (.tuple #[strV (D.doR o).1, .int .i64 (D.doR o).2]) ∧ Dsk w W' f (D.doOp o) ∧ Fr f.blks W W' := by
  obtain ⟨kind, i, bit, text, picks⟩ := o
  obtain ⟨a, cap, rfl⟩ := hp.cells
  have hlt := h.1.lt
  have hq : ∀ W0, Below W.heap.size W W0 → Dsk w W0 f D := fun W0 hb => h.grow hb
  have hf : ∀ W0 W', Below W.heap.size W W0 → Fr f.blks W0 W' → Fr f.blks W W' := fun W0 W' hb hf => (Fr.of_below hb).trans hf
  unfold Dk.OpD.v
  by_cases k1 : kind = 1
  · subst k1
    refine (do_write f.p i bit text (padTo text) a _ cap rfl f.blks hlt (D.writeE i (padTo text)) (fun W' => Dsk w W' f (D.write i (padTo text)) ∧ Fr f.blks W W') fun W0 hb => (d_write (hq W0 hb) rfl rfl).mono fun e W' ⟨h1, h2, h3⟩ => ⟨h1, h3, h2, hf _ _ hb h3⟩).mono ?_
    rintro e W' ⟨rfl, h2, h3⟩
    exact ⟨rfl, h2, h3⟩
  by_cases k2 : kind = 2
  · subst k2
    refine (do_read f.p i bit text a _ cap (D.read i).1 (D.read i).2 (fun W' => Dsk w W' f D ∧ Fr f.blks W W') fun W0 hb => (d_read (hq W0 hb) (t := (D.read i).1) (r := (D.read i).2) rfl).mono fun e W' ⟨h1, h2⟩ => ⟨h1, (hq W0 hb).quiet h2, hf _ _ hb (h2.mono (by simp))⟩).mono ?_
    rintro e W' ⟨rfl, h2, h3⟩
    exact ⟨rfl, h2, h3⟩
  by_cases k3 : kind = 3
  · subst k3
    refine (do_flush f.p i bit text a _ cap D.flushE (fun W' => Dsk w W' f D.flush ∧ Fr f.blks W W') fun W0 hb => (d_flush (hq W0 hb) rfl rfl).mono fun e W' ⟨h1, h2, h3⟩ => ⟨h1, h2, hf _ _ hb h3⟩).mono ?_
    rintro e W' ⟨rfl, h2, h3⟩
    exact ⟨rfl, h2, h3⟩
  by_cases k4 : kind = 4
  · subst k4
    refine (do_trip f.p i bit text a _ cap (fun W' => Dsk w W' f (D.trip i) ∧ Fr f.blks W W') fun W0 hb => (d_trip (hq W0 hb) hi rfl).mono fun e W' ⟨h1, h2, h3⟩ => ⟨h1, h2, hf _ _ hb h3⟩).mono ?_
    rintro e W' ⟨rfl, h2, h3⟩
    exact ⟨rfl, h2, h3⟩
  by_cases k5 : kind = 5
  · subst k5
    refine (do_mount f.p i bit text a _ cap (fun W' => Dsk w W' f (D.mount picks) ∧ Fr f.blks W W') fun W0 hb => (d_mount (hq W0 hb) (hp.grow hb) rfl).mono fun e W' ⟨h1, h2, h3⟩ => ⟨h1, h2, hf _ _ hb h3⟩).mono ?_
    rintro e W' ⟨rfl, h2, h3⟩
    exact ⟨rfl, h2, h3⟩
  by_cases k6 : kind = 6
  · subst k6
    refine (do_rot f.p i bit text a _ cap (D.rotE i bit) (fun W' => Dsk w W' f (D.rot i bit) ∧ Fr f.blks W W') fun W0 hb => (d_rot (hq W0 hb) rfl rfl).mono fun e W' ⟨h1, h2, h3⟩ => ⟨h1, h2, hf _ _ hb h3⟩).mono ?_
    rintro e W' ⟨rfl, h2, h3⟩
    exact ⟨rfl, h2, h3⟩
  by_cases k7 : kind = 7
  · subst k7
    refine (do_wear f.p i bit text a _ cap (D.wearE i) (fun W' => Dsk w W' f (D.wear i) ∧ Fr f.blks W W') fun W0 hb => (d_wear (hq W0 hb) rfl rfl).mono fun e W' ⟨h1, h2, h3⟩ => ⟨h1, h2, hf _ _ hb h3⟩).mono ?_
    rintro e W' ⟨rfl, h2, h3⟩
    exact ⟨rfl, h2, h3⟩
  have e1 : D.doR ⟨kind, i, bit, text, picks⟩ = ([], 0) := by simp [DS.doR, k1, k2, k3, k4, k5, k6, k7]
  have e2 : D.doOp ⟨kind, i, bit, text, picks⟩ = D := by simp [DS.doOp, k1, k2, k3, k4, k5, k6, k7]
  rw [e1, e2]
  refine (do_none f.p kind i bit text a _ cap (by simpa using k1) (by simpa using k2) (by simpa using k3) (by simpa using k4) (by simpa using k5) (by simpa using k6) (by simpa using k7)).mono ?_
  rintro e W' ⟨rfl, h2⟩
  exact ⟨rfl, hq _ h2, Fr.of_below h2⟩
end Go.Proofs.Ytoefpnmfeaimlaa
