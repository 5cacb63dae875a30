/- The examples of the documentation: sanity answers true. -/
import Derived.Test.YtoefpnmfeaimlaaDsk
import Derived.Test.YtoefpnmfeaimlaaMix
namespace Go.Proofs.Ytoefpnmfeaimlaa
open Go.RowKit Dk

/-- What lies beside the disk f: a disk f2, a string at pi, a number at pp; f turns none of them. -/
structure Side (w W : World) (f f2 : DF) (D2 : DS) (pi pp : Addr) (Z : List UInt8) : Prop where
  d : Dsk w W f2 D2
  far : ∀ b ∈ f2.blks, b ∉ f.blks
  own : ∀ b ∈ f.blks, w.heap.size ≤ b
  ci : W.cell? pi = some (.string ⟨Z.toArray⟩)
  cp : W.cell? pp = some (.int .i64 0)
  ni : pi.block ∉ f.blks
  np : pp.block ∉ f.blks
theorem Side.fr {w W W' : World} {f f2 : DF} {D2 : DS} {pi pp : Addr} {Z : List UInt8} (h : Side w W f f2 D2 pi pp Z) (k : Fr f.blks W W') : Side w W' f f2 D2 pi pp Z :=
  ⟨h.d.other k h.own h.far, h.far, h.own, by rw [← h.ci]; exact World.cell?_of_block (w := W) (k.block _ (lt_of_cell h.ci) h.ni), by rw [← h.cp]; exact World.cell?_of_block (w := W) (k.block _ (lt_of_cell h.cp) h.np), h.ni, h.np⟩
theorem Side.quiet {w W W' : World} {f f2 : DF} {D2 : DS} {pi pp : Addr} {Z : List UInt8} (h : Side w W f f2 D2 pi pp Z) (k : Fr [] W W') : Side w W' f f2 D2 pi pp Z := h.fr (k.mono (by simp))
theorem bytes_cat (a b : List UInt8) (hb : b.length = 64) : (⟨a.toArray⟩ : ByteArray) ++ (⟨b.toArray⟩ : ByteArray).extract 3 64 = ⟨(a ++ b.drop 3).toArray⟩ := by
  apply ByteArray.ext
  apply Array.toList_inj.1
  simp [← hb]
  exact List.take_of_length_le (by simp)
theorem byte_zero (X : List UInt8) (c : UInt8) (h : X[0]? = some c) (hp : 0 < (⟨X.toArray⟩ : ByteArray).size) : ((⟨X.toArray⟩ : ByteArray)[0]'hp) = c := by
  obtain ⟨h0, h1⟩ := List.getElem?_eq_some_iff.1 h
  rw [← h1]
  rfl
attribute [local irreducible] wpMix
theorem ints_one (W : World) (f : DF) (D : DS) (o : Obj) (h : DiskAt W f D) (x : Int) (ho : (W.alloc o).cell? ⟨W.heap.size, 0, none⟩ = some (.int .i64 x)) :
    IntsIn (W.alloc o) f.blks (.slice (some ⟨W.heap.size, 0, none⟩) 1 1) [x] :=
  .inr ⟨W.heap.size, 0, 1, rfl, fun hm => by have := h.lt _ hm; omega, fun j y hy => by
    cases j with
    | zero => simp at hy; subst hy; exact ho
    | succ j => simp at hy⟩

set_option maxHeartbeats 1000000 in
set_option maxRecDepth 100000 in
theorem sanity_core {w : World} (D0 D1 D2 D3 D4 D5 D6 D7 D8 D9 : DS) (A Z B T X : List UInt8)
    (e0 : Hid (DS.new 2 = D0)) (fA : Hid (List.replicate 64 97 = A)) (fB : Hid (List.replicate 64 98 = B)) (fZ : Hid (List.replicate 64 0 = Z))
    (w0 : Hid (D0.writeE 0 A = 0)) (e1 : Hid (D0.write 0 A = D1)) (r1 : Hid (D1.read 0 = (A, 0))) (i1 : Hid (D1.image = [Z, Z])) (p1 : Hid (D1.pend = [0]))
    (e2 : Hid (D1.mount [3] = D2)) (r2 : Hid (D2.read 0 = (T, 0))) (w2 : Hid (D2.writeE 1 A = 0)) (e3 : Hid (D2.write 1 A = D3)) (w3 : Hid (D3.flushE = 0)) (e4 : Hid (D3.flush = D4))
    (w4 : Hid (D4.rotE 1 0 = 0)) (e5 : Hid (D4.rot 1 0 = D5)) (r5 : Hid (D5.read 1 = (X, 0))) (w5 : Hid (D5.wearE 0 = 0)) (e6 : Hid (D5.wear 0 = D6)) (e7 : Hid (D6.trip 1 = D7))
    (w7 : Hid (D7.writeE 0 B = 0)) (e8 : Hid (D7.write 0 B = D8)) (w8 : Hid (D8.flushE = 24)) (e9 : Hid (D8.flush = D9)) (r9 : Hid (D9.read 0 = ([], 24)))
    (n9 : Hid (D9.wornL = [0])) (l9 : Hid (D9.s.length = 2)) (u9 : Hid (D9.off = true)) (u1 : Hid (D1.off = false)) (hT : Hid ([97, 97, 97] ++ Z.drop 3 = T)) (hZ : Hid (Z.length = 64)) (hX : Hid (X.length = 64)) (hX0 : Hid (X[0]? = some 96)) :
    Calls Try.prog 8 #[] w fun e W' => e = .returned (.bool true) ∧ Below w.heap.size w W' := by
  go_enter Try.func8, Try.ntmps8
  go_wp2_with fail
  go_at_call 9
  refine (d_new (Below.refl _ w) 2 (by omega) (by omega)).mono ?_
  rintro e W0 ⟨f, rfl, hd, -, -⟩
  rw [e0.out] at hd
  have H0 := Lib.hid hd
  clear hd e0
  go_wp2_with fail
  go_at_call 13
  refine (d_full 97 97 rfl fA.out).mono ?_
  rintro e W1 ⟨rfl, hf⟩
  have H1 := Lib.hid (H0.out.quiet hf)
  clear hf H0
  go_wp2_with fail
  go_at_call 12
  refine (d_write H1.out w0.out e1.out).mono ?_
  rintro e W2 ⟨rfl, hd, hf⟩
  have H2 := Lib.hid hd
  clear hf hd H1 w0 e1
  go_wp2_with fail
  go_at_call 11
  refine (d_read H2.out r1.out).mono ?_
  rintro e W3 ⟨rfl, hf⟩
  have H3 := Lib.hid (H2.out.quiet hf)
  clear hf H2
  go_wp2_with fail
  go_at_call 10
  refine (d_image H3.out i1.out).mono ?_
  rintro e W4 ⟨v, rfl, hv, hf⟩
  have hv2 := hv.inn (S := f.blks) H3.out.1.lt
  obtain ⟨bi, oi, ci, rfl⟩ := hv2.place (by simp)
  have hnb : bi ∉ f.blks := by obtain ⟨b, cap, hh, hle, -⟩ := hv; injection hh with hh; injection hh with hh; injection hh with hh; subst hh; intro hm; have := H3.out.1.lt _ hm; omega
  have hci : W4.cell? ⟨bi, oi, none⟩ = some (.string ⟨Z.toArray⟩) := hv2.at (j := 0) rfl
  have H4 := Lib.hid (H3.out.quiet hf)
  have Hnb := Lib.hid hnb
  have Hci := Lib.hid hci
  clear hf H3 i1 hv hv2 hnb hci
  go_wp2_with fail
  go_at_call 17
  refine (d_pending H4.out p1.out).mono ?_
  rintro e W5 ⟨v, rfl, hv, hf⟩
  have hv2 := hv.inn (S := f.blks) H4.out.1.lt
  obtain ⟨bp, op, cp, rfl⟩ := hv2.place (ints_ne (by simp))
  have hnp : bp ∉ f.blks := by
    obtain ⟨_, hh | ⟨g, cap, cur, hh, hle, -⟩⟩ := hv
    · simp [ints] at hh
    · injection hh with hh; injection hh with hh; injection hh with hh; subst hh; intro hm; have := H4.out.1.lt _ hm; omega
  have hcp : W5.cell? ⟨bp, op, none⟩ = some (.int .i64 0) := hv2.at (j := 0) rfl
  have hci : W5.cell? ⟨bi, oi, none⟩ = some (.string ⟨Z.toArray⟩) := by rw [← Hci.out]; exact World.cell?_of_block (w := W4) (hf.block _ (lt_of_cell Hci.out) (by simp))
  have H5 := Lib.hid (H4.out.quiet hf)
  have Hnp := Lib.hid hnp
  have Hcp := Lib.hid hcp
  have Hci5 := Lib.hid hci
  clear hf H4 p1 hv hv2 hnp hcp hci Hci
  rw [show (ints [0]).length = 1 from rfl]
  go_wp2_with fail
  go_at_call 26
  refine (d_clone H5.out).mono ?_
  rintro e W6 ⟨f2, rfl, hd2, hd, hfar, hf⟩
  have H6 := Lib.hid hd
  have S6 : Side w W6 f f2 D1 ⟨bi, oi, none⟩ ⟨bp, op, none⟩ Z :=
    ⟨hd2, hfar, hd.2.2, by rw [← Hci5.out]; exact World.cell?_of_block (w := W5) (hf.block _ (lt_of_cell Hci5.out) (by simp)), by rw [← Hcp.out]; exact World.cell?_of_block (w := W5) (hf.block _ (lt_of_cell Hcp.out) (by simp)), Hnb.out, Hnp.out⟩
  have S6 := Lib.hid S6
  clear hf H5 hd hd2 hfar Hnb Hnp Hcp Hci5
  go_wp2_with fail
  go_at_call 23
  refine (d_mount (H6.out.quiet ((Fr.refl [] W6).alloc _)) (ints_one W6 f D1 _ H6.out.1 3 (by rw [cell_blk (heap_alloc_last _ _)]; rfl)) e2.out).mono ?_
  rintro e W7 ⟨rfl, hd, hf⟩
  have H7 := Lib.hid hd
  have S7 := Lib.hid ((S6.out.quiet ((Fr.refl [] W6).alloc _)).fr hf)
  clear hf hd H6 S6 e2
  go_wp2_with fail
  go_at_call 11
  refine (d_read H7.out r2.out).mono ?_
  rintro e W8 ⟨rfl, hf⟩
  have H8 := Lib.hid (H7.out.quiet hf)
  have S8 := Lib.hid (S7.out.quiet hf)
  clear hf H7 S7 r2
  go_wp2_with fail
  go_at_call 13
  refine (d_full 97 97 rfl fA.out).mono ?_
  rintro e W9 ⟨rfl, hf⟩
  have H9 := Lib.hid (H8.out.quiet hf)
  have S9 := Lib.hid (S8.out.quiet hf)
  clear hf H8 S8 
  go_wp2_with fail
  go_at_call 12
  refine (d_write H9.out w2.out e3.out).mono ?_
  rintro e W10 ⟨rfl, hd, hf⟩
  have H10 := Lib.hid hd
  have S10 := Lib.hid (S9.out.fr hf)
  clear hf hd H9 S9 w2 e3
  go_wp2_with fail
  go_at_call 22
  refine (d_flush H10.out w3.out e4.out).mono ?_
  rintro e W11 ⟨rfl, hd, hf⟩
  have H11 := Lib.hid hd
  have S11 := Lib.hid (S10.out.fr hf)
  clear hf hd H10 S10 w3 e4
  go_wp2_with fail
  go_at_call 14
  refine (d_rot H11.out w4.out e5.out).mono ?_
  rintro e W12 ⟨rfl, hd, hf⟩
  have H12 := Lib.hid hd
  have S12 := Lib.hid (S11.out.fr hf)
  clear hf hd H11 S11 w4 e5
  go_wp2_with fail
  go_at_call 11
  refine (d_read H12.out r5.out).mono ?_
  rintro e W13 ⟨rfl, hf⟩
  have H13 := Lib.hid (H12.out.quiet hf)
  have S13 := Lib.hid (S12.out.quiet hf)
  clear hf H12 S12 r5
  go_wp2_with fail
  go_at_call 15
  refine (d_wear H13.out w5.out e6.out).mono ?_
  rintro e W14 ⟨rfl, hd, hf⟩
  have H14 := Lib.hid hd
  have S14 := Lib.hid (S13.out.fr hf)
  clear hf hd H13 S13 w5 e6
  go_wp2_with fail
  go_at_call 29
  refine (d_trip H14.out (by omega) e7.out).mono ?_
  rintro e W15 ⟨rfl, hd, hf⟩
  have H15 := Lib.hid hd
  have S15 := Lib.hid (S14.out.fr hf)
  clear hf hd H14 S14 e7
  go_wp2_with fail
  go_at_call 13
  refine (d_full 98 98 rfl fB.out).mono ?_
  rintro e W16 ⟨rfl, hf⟩
  have H16 := Lib.hid (H15.out.quiet hf)
  have S16 := Lib.hid (S15.out.quiet hf)
  clear hf H15 S15 
  go_wp2_with fail
  go_at_call 12
  refine (d_write H16.out w7.out e8.out).mono ?_
  rintro e W17 ⟨rfl, hd, hf⟩
  have H17 := Lib.hid hd
  have S17 := Lib.hid (S16.out.fr hf)
  clear hf hd H16 S16 w7 e8
  go_wp2_with fail
  go_at_call 22
  refine (d_flush H17.out w8.out e9.out).mono ?_
  rintro e W18 ⟨rfl, hd, hf⟩
  have H18 := Lib.hid hd
  have S18 := Lib.hid (S17.out.fr hf)
  clear hf hd H17 S17 w8 e9
  go_wp2_with fail
  go_at_call 11
  refine (d_read H18.out r9.out).mono ?_
  rintro e W19 ⟨rfl, hf⟩
  have H19 := Lib.hid (H18.out.quiet hf)
  have S19 := Lib.hid (S18.out.quiet hf)
  clear hf H18 S18 r9
  go_wp2_with fail
  go_at_call 9
  refine (new_arg 0 (.inl (by omega))).mono ?_
  rintro e W20 ⟨rfl, rfl⟩
  have hX := hX.out
  unfold strV
  clear S6
  go_wp2_with fail
  go_at_call 11
  refine (d_read S19.out.d r1.out).mono ?_
  rintro e W20 ⟨rfl, hf⟩
  have H20 := Lib.hid (H19.out.quiet hf)
  have S20 := Lib.hid (S19.out.quiet hf)
  clear hf H19 S19 r1
  unfold strV
  go_wp2_with fail
  go_at_call 18
  refine (d_worn H20.out n9.out).mono ?_
  rintro e W21 ⟨v, rfl, hv, hf⟩
  obtain ⟨ww, cw, rfl⟩ := (hv.inn (S := []) (by simp)).cells
  have H21 := Lib.hid (H20.out.quiet hf)
  have S21 := Lib.hid (S20.out.quiet hf)
  clear hf H20 S20 hv n9
  rw [show (ints [0]).length = 1 from rfl]
  go_wp2_with fail
  refine wp_region_mixes (fun W => W.cell? ⟨bi, oi, none⟩ = some (.string ⟨Z.toArray⟩) ∧ W.cell? ⟨bp, op, none⟩ = some (.int .i64 0)) ((true, 0) :: (true, 1) :: (true, 2) :: (false, 3) :: (true, 4) :: (true, 5) :: (true, 6) :: (true, 7) :: (true, 8) :: (true, 9) :: (false, 10) :: (true, 11) :: (true, 12) :: (true, 13) :: (true, 14) :: (true, 15) :: (true, 16) :: (true, 17) :: (true, 18) :: (true, 19) :: (true, 20) :: (false, 21) :: (true, 22) :: (true, 23) :: (true, 24) :: (true, 25) :: (true, 26) :: (true, 27) :: (true, 28) :: (true, 29) :: (true, 30) :: (true, 31) :: (true, 32) :: (true, 33) :: (true, 34) :: (true, 35) :: (true, 36) :: (true, 37) :: (true, 38) :: (true, 39) :: (true, 40) :: (false, 41) :: (true, 42) :: (true, 43) :: (true, 44) :: (true, 45) :: (false, 46) :: (true, 47) :: (true, 48) :: (true, 49) :: (true, 50) :: (true, 51) :: (true, 52) :: (true, 53) :: (false, 54) :: (true, 55) :: (true, 56) :: (true, 57) :: (true, 58) :: (true, 59) :: (true, 60) :: (true, 61) :: (true, 62) :: (true, 63) :: (false, 64) :: (true, 65) :: (true, 66) :: (true, 67) :: []) (by kernel_rfl) (by kernel_rfl) ⟨S21.out.ci, S21.out.cp⟩ ?_
  repeat (apply wpMix_take rfl rfl; (focus (rintro W ⟨c0, c1⟩; go_simp; rfl)); intro K' hK; go_simp; refine hK _ _ ?_; clear hK K')
  refine wpMix_go rfl rfl (fun K' hK => ?_)
  go_simp
  refine (d_full 97 97 rfl fA.out).mono ?_
  rintro e W22 ⟨rfl, hf⟩
  have H22 := Lib.hid (H21.out.quiet (Fr.pre_drew hf))
  have S22 := Lib.hid (S21.out.quiet (Fr.pre_drew hf))
  unfold strV
  refine hK _ _ ⟨⟨S22.out.ci, S22.out.cp⟩, ?_⟩
  clear hf H21 S21 hK K'
  repeat (apply wpMix_take rfl rfl; (focus (rintro W ⟨c0, c1⟩; go_simp; rfl)); intro K' hK; go_simp; refine hK _ _ ?_; clear hK K')
  refine wpMix_go rfl rfl (fun K' hK => ?_)
  go_simp
  refine (d_full 0 0 rfl fZ.out).mono ?_
  rintro e W23 ⟨rfl, hf⟩
  have H23 := Lib.hid (H22.out.quiet hf)
  have S23 := Lib.hid (S22.out.quiet hf)
  unfold strV
  refine hK _ _ ⟨⟨S23.out.ci, S23.out.cp⟩, ?_⟩
  clear hf H22 S22 hK K'
  repeat (apply wpMix_take rfl rfl; (focus (rintro W ⟨c0, c1⟩; go_simp; rfl)); intro K' hK; go_simp; refine hK _ _ ?_; clear hK K')
  refine wpMix_go rfl rfl (fun K' hK => ?_)
  go_simp
  refine (d_full 0 0 rfl fZ.out).mono ?_
  rintro e W24 ⟨rfl, hf⟩
  have H24 := Lib.hid (H23.out.quiet hf)
  have S24 := Lib.hid (S23.out.quiet hf)
  unfold strV
  refine hK _ _ ⟨⟨S24.out.ci, S24.out.cp⟩, ?_⟩
  clear hf H23 S23 hK K'
  have hZ2 := hZ.out
  apply wpMix_take rfl rfl
  focus (rintro W ⟨c0, c1⟩; go_simp; rfl)
  intro K' hK; go_simp; refine hK _ _ ?_; clear hK K'
  have hcat : ({ data := #[97, 97, 97] } : ByteArray) ++ ({ data := Z.toArray } : ByteArray).extract 3 64 = { data := T.toArray } := by
    rw [← hT.out]; exact bytes_cat [97, 97, 97] Z hZ.out
  apply wpMix_take rfl rfl
  focus (rintro W ⟨c0, c1⟩; go_simp; rfl)
  intro K' hK; go_simp; refine hK _ _ ?_; clear hK K' hcat
  iterate 4 (apply wpMix_take rfl rfl; (focus (rintro W ⟨c0, c1⟩; go_simp; rfl)); intro K' hK; go_simp; refine hK _ _ ?_; clear hK K')
  refine wpMix_take rfl rfl (v := .int .u8 96) ?_ ?_
  focus (rintro W ⟨c0, c1⟩; go_simp; rw [byte_zero X 96 hX0.out]; rfl)
  intro K' hK; go_simp; refine hK _ _ ?_; clear hK K'
  repeat (apply wpMix_take rfl rfl; (focus (rintro W ⟨c0, c1⟩; go_simp; rfl)); intro K' hK; go_simp; refine hK _ _ ?_; clear hK K')
  refine wpMix_go rfl rfl (fun K' hK => ?_)
  go_simp
  refine (d_up H24.out).mono ?_
  rintro e W25 ⟨rfl, rfl⟩
  rw [u9.out]
  refine hK _ _ ⟨⟨S24.out.ci, S24.out.cp⟩, ?_⟩
  clear hK K'
  repeat (apply wpMix_take rfl rfl; (focus (rintro W ⟨c0, c1⟩; go_simp; rfl)); intro K' hK; go_simp; refine hK _ _ ?_; clear hK K')
  refine wpMix_go rfl rfl (fun K' hK => ?_)
  go_simp
  refine (d_up S24.out.d).mono ?_
  rintro e W25 ⟨rfl, rfl⟩
  rw [u1.out]
  refine hK _ _ ⟨⟨S24.out.ci, S24.out.cp⟩, ?_⟩
  clear hK K'
  repeat (apply wpMix_take rfl rfl; (focus (rintro W ⟨c0, c1⟩; go_simp; rfl)); intro K' hK; go_simp; refine hK _ _ ?_; clear hK K')
  refine wpMix_go rfl rfl (fun K' hK => ?_)
  go_simp
  refine (d_full 97 97 rfl fA.out).mono ?_
  rintro e W25 ⟨rfl, hf⟩
  have H25 := Lib.hid (H24.out.quiet hf)
  have S25 := Lib.hid (S24.out.quiet hf)
  unfold strV
  refine hK _ _ ⟨⟨S25.out.ci, S25.out.cp⟩, ?_⟩
  clear hf H24 S24 hK K'
  repeat (apply wpMix_take rfl rfl; (focus (rintro W ⟨c0, c1⟩; go_simp; rfl)); intro K' hK; go_simp; refine hK _ _ ?_; clear hK K')
  refine wpMix_go rfl rfl (fun K' hK => ?_)
  go_simp
  refine (d_len H25.out).mono ?_
  rintro e W26 ⟨rfl, rfl⟩
  rw [l9.out]
  refine hK _ _ ⟨⟨S25.out.ci, S25.out.cp⟩, ?_⟩
  clear hK K'
  repeat (apply wpMix_take rfl rfl; (focus (rintro W ⟨c0, c1⟩; go_simp; rfl)); intro K' hK; go_simp; refine hK _ _ ?_; clear hK K')
  refine wpMix_nil ?_
  go_wp2
  go_ret
  exact ⟨rfl, H25.out.below⟩

def tA : List UInt8 := List.replicate 64 97
def tB : List UInt8 := List.replicate 64 98
def tZ : List UInt8 := List.replicate 64 0
def tT : List UInt8 := [97, 97, 97] ++ tZ.drop 3
def tX : List UInt8 := 96 :: List.replicate 63 97
def sD0 : DS := DS.new 2
def sD1 : DS := sD0.write 0 tA
def sD2 : DS := sD1.mount [3]
def sD3 : DS := sD2.write 1 tA
def sD4 : DS := sD3.flush
def sD5 : DS := sD4.rot 1 0
def sD6 : DS := sD5.wear 0
def sD7 : DS := sD6.trip 1
def sD8 : DS := sD7.write 0 tB
def sD9 : DS := sD8.flush
theorem sanity_any {w : World} : Calls Try.prog 8 #[] w fun e W' => e = .returned (.bool true) ∧ Below w.heap.size w W' :=
  sanity_core sD0 sD1 sD2 sD3 sD4 sD5 sD6 sD7 sD8 sD9 tA tZ tB tT tX (Lib.hid rfl) (Lib.hid rfl) (Lib.hid rfl) (Lib.hid rfl)
    (Lib.hid (by decide +kernel)) (Lib.hid rfl) (Lib.hid (by decide +kernel)) (Lib.hid (by decide +kernel)) (Lib.hid (by decide +kernel))
    (Lib.hid rfl) (Lib.hid (by decide +kernel)) (Lib.hid (by decide +kernel)) (Lib.hid rfl) (Lib.hid (by decide +kernel)) (Lib.hid rfl)
    (Lib.hid (by decide +kernel)) (Lib.hid rfl) (Lib.hid (by decide +kernel)) (Lib.hid (by decide +kernel)) (Lib.hid rfl) (Lib.hid rfl)
    (Lib.hid (by decide +kernel)) (Lib.hid rfl) (Lib.hid (by decide +kernel)) (Lib.hid rfl) (Lib.hid (by decide +kernel))
    (Lib.hid (by decide +kernel)) (Lib.hid (by decide +kernel)) (Lib.hid (by decide +kernel)) (Lib.hid (by decide +kernel)) (Lib.hid rfl) (Lib.hid (by decide +kernel)) (Lib.hid (by decide +kernel)) (Lib.hid (by decide +kernel))
end Go.Proofs.Ytoefpnmfeaimlaa
