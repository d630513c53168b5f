/- The walk of layer octet's law on what is read. No conditions but the form's reach. -/
import Derived.Test.YtpnkfhfaoomdpaaOctetOwn
import Derived.Test.YtpnkfhfaoomdpaaOctetOnePlain
namespace Go.Proofs.Ytpnkfhfaoomdpaa
open Go.RowKit

theorem wf_i64 {x : Int} (h : -9223372036854775808 ≤ x ∧ x ≤ 9223372036854775807) : (Lit.int .i64 x).wf = true := by simpa [Lit.wf, IntKind.min, IntKind.max, IntKind.signed, IntKind.bits] using h
set_option maxHeartbeats 8000000 in
theorem octetOne_walk (W : World) (v0 : Value) (bs : List Int) (h0 : rSl 1 1 (rInt .u8) W [v0] bs) :
    Calls Try.prog 8 #[v0] W fun e w' => e = .returned (.bool true) ∧ Below W.heap.size W w' := by
  obtain ⟨a0, k0, rfl, l0, lc, i0, r0⟩ := NumsAt.of_rSl h0
  clear h0
  by_cases g0 : 300 < bs.length
  · have g0' : (300 : Int) < (bs.length : Int) := by omega
    go_enter Try.func8, Try.ntmps8
    go_wp2_with (go_at_call 10; refine (works_true _).mono ?_; rintro e w' ⟨rfl, hb⟩)
    go_ret
    exact ⟨rfl, by assumption⟩
  have g0' : decide ((300 : Int) < (bs.length : Int)) = false := by simp; omega
  have x4 : ∀ x ∈ bs, 0 ≤ x ∧ x ≤ 255 := fun x hx => range_u8 (r0.out x hx)
  have X4 := Lib.hid x4
  have F1 := fun p' n (h : Octet.rNum bs 0 0 = (p', 0, n)) => Octet.rNum_ok x4 (Nat.zero_le _) h
  have D1 := fun w' g a c (h : RD w' g a c bs 0 0) => num_fn w' g a c bs 0 0 h
  generalize Octet.rNum bs 0 0 = q1 at D1 F1
  obtain ⟨p1, e1, m1⟩ := q1
  have F2 := fun p' l (h : Octet.rList bs 0 0 = (p', 0, l)) => Octet.rList_ok x4 h
  have D2 := fun w' g a c (h : RD w' g a c bs 0 0) => rdlist_any w' g a c bs 0 0 h
  generalize Octet.rList bs 0 0 = q1 at D2 F2
  obtain ⟨p2, e2, l2⟩ := q1
  have F3 := fun p' l (h : Octet.rText bs 0 0 = (p', 0, l)) => Octet.rText_ok x4 h
  have D3 := fun w' g a c (h : RD w' g a c bs 0 0) => text_any w' g a c bs 0 0 h
  generalize Octet.rText bs 0 0 = q1 at D3 F3
  obtain ⟨p3, e3, t3⟩ := q1
  simp only at D1 D2 D3
  replace D1 := Lib.hid D1
  replace D2 := Lib.hid D2
  replace D3 := Lib.hid D3
  replace F1 := Lib.hid F1
  replace F2 := Lib.hid F2
  replace F3 := Lib.hid F3
  clear x4
  rcases Decidable.em (e1 = 0) with rfl | he1
  · obtain ⟨hd1, hp1, hle1, hn1⟩ := F1.out _ _ rfl
    have ht1 : bs.take p1 = [] ++ Octet.one m1 := by rw [List.nil_append]; exact Octet.take_of hd1 (by omega)
    have hpos1 : (0 : Int) < p1 := by have := Octet.one_pos m1; omega
    have hlen1 : (bs.take p1).length = p1 := by rw [List.length_take]; omega
    have ON1 := fun w' => onum_any w' none 0 0 [] (NumsAt.nil _ _ _) rfl (by omega) m1 hn1
    rw [← ht1] at ON1
    have EQ1 := fun w' a b c c' h h' => eqb_yes2 (w := w') (a := a) (b := b) (l := bs.take p1) (c0 := c) (c1 := c') h h' (by rw [hlen1]; omega)
    have UP1 := fun w' a (h : NumsAt .u8 w' a bs) => h.upto p1
    clear hd1 hp1 ht1 F1
    generalize bs.take p1 = L1 at ON1 EQ1 hlen1 UP1
    subst hlen1
    replace ON1 := Lib.hid ON1
    replace EQ1 := Lib.hid EQ1
    replace UP1 := Lib.hid UP1
    have hs1 := fun w => run_cut_h (P := Try.prog) Try.underlying25 Try.sizeByte a0 bs.length k0 L1.length (kh := .i64) (H := (L1.length : Int)) rfl (by omega) w
    have hsub1 : (bs.length : Int) - ((bs.length : Int) - (L1.length : Int)) = (L1.length : Int) := by omega
    replace hs1 := Lib.hid hs1
    replace hsub1 := Lib.hid hsub1
    replace hpos1 := Lib.hid hpos1
    rcases Decidable.em (e2 = 0) with rfl | he2
    · obtain ⟨ht2, hle2, hll2, hn2⟩ := F2.out _ _ rfl
      have ht2 : bs.take p2 = [] ++ Octet.one l2.length ++ Octet.ones l2 := ht2
      have hlen2 : (bs.take p2).length = p2 := by rw [List.length_take]; omega
      have hpos2 : (0 : Int) < p2 := by have := Octet.one_pos (l2.length : Int); have h := congrArg List.length ht2; simp only [List.nil_append, List.length_append] at h; omega
      have ON2 := fun w' b c h => olist_any w' none 0 0 [] (NumsAt.nil _ _ _) rfl (by omega) b l2.length c l2 h rfl (by omega) (fun x hx => wf_i64 (hn2 x hx))
      rw [← ht2] at ON2
      have EQ2 := fun w' a b c c' h h' => eqb_yes2 (w := w') (a := a) (b := b) (l := bs.take p2) (c0 := c) (c1 := c') h h' (by rw [hlen2]; omega)
      have UP2 := fun w' a (h : NumsAt .u8 w' a bs) => h.upto p2
      clear hn2 ht2 F2
      generalize bs.take p2 = L2 at ON2 EQ2 hlen2 UP2
      subst hlen2
      replace ON2 := Lib.hid ON2
      replace EQ2 := Lib.hid EQ2
      replace UP2 := Lib.hid UP2
      have hs2 := fun w => run_cut_h (P := Try.prog) Try.underlying25 Try.sizeByte a0 bs.length k0 L2.length (kh := .i64) (H := (L2.length : Int)) rfl (by omega) w
      have hsub2 : (bs.length : Int) - ((bs.length : Int) - (L2.length : Int)) = (L2.length : Int) := by omega
      replace hs2 := Lib.hid hs2
      replace hsub2 := Lib.hid hsub2
      replace hpos2 := Lib.hid hpos2
      rcases Decidable.em (e3 = 0) with rfl | he3
      · obtain ⟨ht3, hle3, hll3, hn3⟩ := F3.out _ _ rfl
        have ht3 : bs.take p3 = [] ++ Octet.one t3.length ++ t3 := ht3
        have hlen3 : (bs.take p3).length = p3 := by rw [List.length_take]; omega
        have hpos3 : (0 : Int) < p3 := by have := Octet.one_pos (t3.length : Int); have h := congrArg List.length ht3; simp only [List.nil_append, List.length_append] at h; omega
        have ON3 := fun w' => otext_any w' none 0 0 [] (NumsAt.nil _ _ _) rfl (by omega) (strOfNums t3) (by rw [str_size]; omega)
        rw [str_size, txt_str hn3] at ON3
        rw [← ht3] at ON3
        have EQ3 := fun w' a b c c' h h' => eqb_yes2 (w := w') (a := a) (b := b) (l := bs.take p3) (c0 := c) (c1 := c') h h' (by rw [hlen3]; omega)
        have UP3 := fun w' a (h : NumsAt .u8 w' a bs) => h.upto p3
        clear hn3 ht3 F3
        generalize bs.take p3 = L3 at ON3 EQ3 hlen3 UP3
        subst hlen3
        replace ON3 := Lib.hid ON3
        replace EQ3 := Lib.hid EQ3
        replace UP3 := Lib.hid UP3
        have hs3 := fun w => run_cut_h (P := Try.prog) Try.underlying25 Try.sizeByte a0 bs.length k0 L3.length (kh := .i64) (H := (L3.length : Int)) rfl (by omega) w
        have hsub3 : (bs.length : Int) - ((bs.length : Int) - (L3.length : Int)) = (L3.length : Int) := by omega
        replace hs3 := Lib.hid hs3
        replace hsub3 := Lib.hid hsub3
        replace hpos3 := Lib.hid hpos3
        have i00 := i0
        have hb0 := Below.refl W.heap.size W
        go_enter Try.func8, Try.ntmps8
        go_wp2_with fail
        refine (from_any _ a0 bs.length k0 bs i0 rfl (by omega)).mono ?_
        rintro e w11 ⟨g1, a1, c1, rfl, hg1, h1, hne1, hR1, hb11, hc1⟩
        have R11 : RD w11 g1 a1 c1 bs 0 0 := ⟨hR1, h1, fun ad h => (hne1.out ad h).2, Nat.zero_le _, hc1, by omega, X4.out⟩
        replace hg1 := Nat.le_trans hb0.size hg1
        replace hb11 := btrans hb0 hb11
        clear hR1 h1 hne1 hc1 hb0 i0
        go_wp2_with fail
        refine (D1.out _ _ _ _ R11).mono ?_
        rintro e w12 ⟨hg12, rfl, R12⟩
        have hb12 := rdr_grown hb11 hg12 hg1
        clear hg12 hb11 R11
        go_wp2_with fail
        refine (err_any _ _ _ _ _ _ _ R12.rdr).mono ?_
        rintro e w13 ⟨rfl, rfl⟩
        go_wp2_with fail
        refine (ON1.out _).mono ?_
        rintro e w13 ⟨b13, c13, rfl, ho13, hb13⟩
        have R13 := R12.below hb13
        have h13 := NumsAt.of_owns ho13
        replace hb13 := btrans hb12 hb13
        clear hb12 R12 ho13
        go_wp2_with fail
        refine (Left_any _ _ _ _ _ _ _ R13).mono ?_
        rintro e w14 ⟨rfl, n14, rfl⟩
        have hsub := hsub1.out
        have hs := hs1.out
        have hpos := hpos1.out
        have i14 := i00.below (bdrewN hb13 n14)
        go_wp2_with fail
        refine (EQ1.out _ _ _ _ _ (h13.drewN n14) (UP1.out _ _ i14)).mono ?_
        rintro e w15 ⟨rfl, n15, rfl⟩
        have hb1 := bdrewN hb13 (n14 + n15)
        have i1 := i00.below hb1
        clear hsub hs hpos R13 h13 hb13 i14
        go_wp2_with fail
        refine (from_any _ a0 bs.length k0 bs i1 rfl (by omega)).mono ?_
        rintro e w21 ⟨g2, a2, c2, rfl, hg2, h2, hne2, hR2, hb21, hc2⟩
        have R21 : RD w21 g2 a2 c2 bs 0 0 := ⟨hR2, h2, fun ad h => (hne2.out ad h).2, Nat.zero_le _, hc2, by omega, X4.out⟩
        replace hg2 := Nat.le_trans hb1.size hg2
        replace hb21 := btrans hb1 hb21
        clear hR2 h2 hne2 hc2 hb1 i1
        go_wp2_with fail
        refine (D2.out _ _ _ _ R21).mono ?_
        rintro e w22 ⟨hg22, ⟨b22, c22, rfl, h22, _, _⟩, R22⟩
        have hb22 := rdr_grown hb21 hg22 hg2
        clear hg22 hb21 R21
        go_wp2_with fail
        refine (err_any _ _ _ _ _ _ _ R22.rdr).mono ?_
        rintro e w23 ⟨rfl, rfl⟩
        go_wp2_with fail
        refine (ON2.out _ _ _ h22).mono ?_
        rintro e w23 ⟨b23, c23, rfl, h23, hb23, _⟩
        have R23 := R22.below hb23
        replace hb23 := btrans hb22 hb23
        clear hb22 R22
        go_wp2_with fail
        refine (Left_any _ _ _ _ _ _ _ R23).mono ?_
        rintro e w24 ⟨rfl, n24, rfl⟩
        have hsub := hsub2.out
        have hs := hs2.out
        have hpos := hpos2.out
        have i24 := i00.below (bdrewN hb23 n24)
        go_wp2_with fail
        refine (EQ2.out _ _ _ _ _ (h23.drewN n24) (UP2.out _ _ i24)).mono ?_
        rintro e w25 ⟨rfl, n25, rfl⟩
        have hb2 := bdrewN hb23 (n24 + n25)
        have i2 := i00.below hb2
        clear hsub hs hpos R23 h23 hb23 i24
        go_wp2_with fail
        refine (from_any _ a0 bs.length k0 bs i2 rfl (by omega)).mono ?_
        rintro e w31 ⟨g3, a3, c3, rfl, hg3, h3, hne3, hR3, hb31, hc3⟩
        have R31 : RD w31 g3 a3 c3 bs 0 0 := ⟨hR3, h3, fun ad h => (hne3.out ad h).2, Nat.zero_le _, hc3, by omega, X4.out⟩
        replace hg3 := Nat.le_trans hb2.size hg3
        replace hb31 := btrans hb2 hb31
        clear hR3 h3 hne3 hc3 hb2 i2
        go_wp2_with fail
        refine (D3.out _ _ _ _ R31).mono ?_
        rintro e w32 ⟨hg32, rfl, R32⟩
        have hb32 := rdr_grown hb31 hg32 hg3
        clear hg32 hb31 R31
        go_wp2_with fail
        refine (err_any _ _ _ _ _ _ _ R32.rdr).mono ?_
        rintro e w33 ⟨rfl, rfl⟩
        go_wp2_with fail
        refine (ON3.out _).mono ?_
        rintro e w33 ⟨b33, c33, rfl, ho33, hb33⟩
        have R33 := R32.below hb33
        have h33 := NumsAt.of_owns ho33
        replace hb33 := btrans hb32 hb33
        clear hb32 R32 ho33
        go_wp2_with fail
        refine (Left_any _ _ _ _ _ _ _ R33).mono ?_
        rintro e w34 ⟨rfl, n34, rfl⟩
        have hsub := hsub3.out
        have hs := hs3.out
        have hpos := hpos3.out
        have i34 := i00.below (bdrewN hb33 n34)
        go_wp2_with fail
        refine (EQ3.out _ _ _ _ _ (h33.drewN n34) (UP3.out _ _ i34)).mono ?_
        rintro e w35 ⟨rfl, n35, rfl⟩
        have hb3 := bdrewN hb33 (n34 + n35)
        have i3 := i00.below hb3
        clear hsub hs hpos R33 h33 hb33 i34
        go_wp2_with fail
        refine (works_true _).mono ?_
        rintro e w9 ⟨rfl, hb9⟩
        replace hb9 := btrans hb3 hb9
        go_wp2
        go_ret
        exact ⟨rfl, hb9⟩
      · have hb3' : (e3 != 0) = true := by simpa using he3
        clear F3 he3
        have i00 := i0
        have hb0 := Below.refl W.heap.size W
        go_enter Try.func8, Try.ntmps8
        go_wp2_with fail
        refine (from_any _ a0 bs.length k0 bs i0 rfl (by omega)).mono ?_
        rintro e w11 ⟨g1, a1, c1, rfl, hg1, h1, hne1, hR1, hb11, hc1⟩
        have R11 : RD w11 g1 a1 c1 bs 0 0 := ⟨hR1, h1, fun ad h => (hne1.out ad h).2, Nat.zero_le _, hc1, by omega, X4.out⟩
        replace hg1 := Nat.le_trans hb0.size hg1
        replace hb11 := btrans hb0 hb11
        clear hR1 h1 hne1 hc1 hb0 i0
        go_wp2_with fail
        refine (D1.out _ _ _ _ R11).mono ?_
        rintro e w12 ⟨hg12, rfl, R12⟩
        have hb12 := rdr_grown hb11 hg12 hg1
        clear hg12 hb11 R11
        go_wp2_with fail
        refine (err_any _ _ _ _ _ _ _ R12.rdr).mono ?_
        rintro e w13 ⟨rfl, rfl⟩
        go_wp2_with fail
        refine (ON1.out _).mono ?_
        rintro e w13 ⟨b13, c13, rfl, ho13, hb13⟩
        have R13 := R12.below hb13
        have h13 := NumsAt.of_owns ho13
        replace hb13 := btrans hb12 hb13
        clear hb12 R12 ho13
        go_wp2_with fail
        refine (Left_any _ _ _ _ _ _ _ R13).mono ?_
        rintro e w14 ⟨rfl, n14, rfl⟩
        have hsub := hsub1.out
        have hs := hs1.out
        have hpos := hpos1.out
        have i14 := i00.below (bdrewN hb13 n14)
        go_wp2_with fail
        refine (EQ1.out _ _ _ _ _ (h13.drewN n14) (UP1.out _ _ i14)).mono ?_
        rintro e w15 ⟨rfl, n15, rfl⟩
        have hb1 := bdrewN hb13 (n14 + n15)
        have i1 := i00.below hb1
        clear hsub hs hpos R13 h13 hb13 i14
        go_wp2_with fail
        refine (from_any _ a0 bs.length k0 bs i1 rfl (by omega)).mono ?_
        rintro e w21 ⟨g2, a2, c2, rfl, hg2, h2, hne2, hR2, hb21, hc2⟩
        have R21 : RD w21 g2 a2 c2 bs 0 0 := ⟨hR2, h2, fun ad h => (hne2.out ad h).2, Nat.zero_le _, hc2, by omega, X4.out⟩
        replace hg2 := Nat.le_trans hb1.size hg2
        replace hb21 := btrans hb1 hb21
        clear hR2 h2 hne2 hc2 hb1 i1
        go_wp2_with fail
        refine (D2.out _ _ _ _ R21).mono ?_
        rintro e w22 ⟨hg22, ⟨b22, c22, rfl, h22, _, _⟩, R22⟩
        have hb22 := rdr_grown hb21 hg22 hg2
        clear hg22 hb21 R21
        go_wp2_with fail
        refine (err_any _ _ _ _ _ _ _ R22.rdr).mono ?_
        rintro e w23 ⟨rfl, rfl⟩
        go_wp2_with fail
        refine (ON2.out _ _ _ h22).mono ?_
        rintro e w23 ⟨b23, c23, rfl, h23, hb23, _⟩
        have R23 := R22.below hb23
        replace hb23 := btrans hb22 hb23
        clear hb22 R22
        go_wp2_with fail
        refine (Left_any _ _ _ _ _ _ _ R23).mono ?_
        rintro e w24 ⟨rfl, n24, rfl⟩
        have hsub := hsub2.out
        have hs := hs2.out
        have hpos := hpos2.out
        have i24 := i00.below (bdrewN hb23 n24)
        go_wp2_with fail
        refine (EQ2.out _ _ _ _ _ (h23.drewN n24) (UP2.out _ _ i24)).mono ?_
        rintro e w25 ⟨rfl, n25, rfl⟩
        have hb2 := bdrewN hb23 (n24 + n25)
        have i2 := i00.below hb2
        clear hsub hs hpos R23 h23 hb23 i24
        go_wp2_with fail
        refine (from_any _ a0 bs.length k0 bs i2 rfl (by omega)).mono ?_
        rintro e w31 ⟨g3, a3, c3, rfl, hg3, h3, hne3, hR3, hb31, hc3⟩
        have R31 : RD w31 g3 a3 c3 bs 0 0 := ⟨hR3, h3, fun ad h => (hne3.out ad h).2, Nat.zero_le _, hc3, by omega, X4.out⟩
        replace hg3 := Nat.le_trans hb2.size hg3
        replace hb31 := btrans hb2 hb31
        clear hR3 h3 hne3 hc3 hb2 i2
        go_wp2_with fail
        refine (D3.out _ _ _ _ R31).mono ?_
        rintro e w32 ⟨hg32, rfl, R32⟩
        have hb32 := rdr_grown hb31 hg32 hg3
        clear hg32 hb31 R31
        go_wp2_with fail
        refine (err_any _ _ _ _ _ _ _ R32.rdr).mono ?_
        rintro e w33 ⟨rfl, rfl⟩
        have hb3 := hb32
        have i3 := i00.below hb3
        clear R32 hb32
        go_wp2_with fail
        refine (works_true _).mono ?_
        rintro e w9 ⟨rfl, hb9⟩
        replace hb9 := btrans hb3 hb9
        go_wp2
        go_ret
        exact ⟨rfl, hb9⟩
    · have hb2' : (e2 == 0) = false := by simpa using he2
      clear F2 he2
      rcases Decidable.em (e3 = 0) with rfl | he3
      · obtain ⟨ht3, hle3, hll3, hn3⟩ := F3.out _ _ rfl
        have ht3 : bs.take p3 = [] ++ Octet.one t3.length ++ t3 := ht3
        have hlen3 : (bs.take p3).length = p3 := by rw [List.length_take]; omega
        have hpos3 : (0 : Int) < p3 := by have := Octet.one_pos (t3.length : Int); have h := congrArg List.length ht3; simp only [List.nil_append, List.length_append] at h; omega
        have ON3 := fun w' => otext_any w' none 0 0 [] (NumsAt.nil _ _ _) rfl (by omega) (strOfNums t3) (by rw [str_size]; omega)
        rw [str_size, txt_str hn3] at ON3
        rw [← ht3] at ON3
        have EQ3 := fun w' a b c c' h h' => eqb_yes2 (w := w') (a := a) (b := b) (l := bs.take p3) (c0 := c) (c1 := c') h h' (by rw [hlen3]; omega)
        have UP3 := fun w' a (h : NumsAt .u8 w' a bs) => h.upto p3
        clear hn3 ht3 F3
        generalize bs.take p3 = L3 at ON3 EQ3 hlen3 UP3
        subst hlen3
        replace ON3 := Lib.hid ON3
        replace EQ3 := Lib.hid EQ3
        replace UP3 := Lib.hid UP3
        have hs3 := fun w => run_cut_h (P := Try.prog) Try.underlying25 Try.sizeByte a0 bs.length k0 L3.length (kh := .i64) (H := (L3.length : Int)) rfl (by omega) w
        have hsub3 : (bs.length : Int) - ((bs.length : Int) - (L3.length : Int)) = (L3.length : Int) := by omega
        replace hs3 := Lib.hid hs3
        replace hsub3 := Lib.hid hsub3
        replace hpos3 := Lib.hid hpos3
        have i00 := i0
        have hb0 := Below.refl W.heap.size W
        go_enter Try.func8, Try.ntmps8
        go_wp2_with fail
        refine (from_any _ a0 bs.length k0 bs i0 rfl (by omega)).mono ?_
        rintro e w11 ⟨g1, a1, c1, rfl, hg1, h1, hne1, hR1, hb11, hc1⟩
        have R11 : RD w11 g1 a1 c1 bs 0 0 := ⟨hR1, h1, fun ad h => (hne1.out ad h).2, Nat.zero_le _, hc1, by omega, X4.out⟩
        replace hg1 := Nat.le_trans hb0.size hg1
        replace hb11 := btrans hb0 hb11
        clear hR1 h1 hne1 hc1 hb0 i0
        go_wp2_with fail
        refine (D1.out _ _ _ _ R11).mono ?_
        rintro e w12 ⟨hg12, rfl, R12⟩
        have hb12 := rdr_grown hb11 hg12 hg1
        clear hg12 hb11 R11
        go_wp2_with fail
        refine (err_any _ _ _ _ _ _ _ R12.rdr).mono ?_
        rintro e w13 ⟨rfl, rfl⟩
        go_wp2_with fail
        refine (ON1.out _).mono ?_
        rintro e w13 ⟨b13, c13, rfl, ho13, hb13⟩
        have R13 := R12.below hb13
        have h13 := NumsAt.of_owns ho13
        replace hb13 := btrans hb12 hb13
        clear hb12 R12 ho13
        go_wp2_with fail
        refine (Left_any _ _ _ _ _ _ _ R13).mono ?_
        rintro e w14 ⟨rfl, n14, rfl⟩
        have hsub := hsub1.out
        have hs := hs1.out
        have hpos := hpos1.out
        have i14 := i00.below (bdrewN hb13 n14)
        go_wp2_with fail
        refine (EQ1.out _ _ _ _ _ (h13.drewN n14) (UP1.out _ _ i14)).mono ?_
        rintro e w15 ⟨rfl, n15, rfl⟩
        have hb1 := bdrewN hb13 (n14 + n15)
        have i1 := i00.below hb1
        clear hsub hs hpos R13 h13 hb13 i14
        go_wp2_with fail
        refine (from_any _ a0 bs.length k0 bs i1 rfl (by omega)).mono ?_
        rintro e w21 ⟨g2, a2, c2, rfl, hg2, h2, hne2, hR2, hb21, hc2⟩
        have R21 : RD w21 g2 a2 c2 bs 0 0 := ⟨hR2, h2, fun ad h => (hne2.out ad h).2, Nat.zero_le _, hc2, by omega, X4.out⟩
        replace hg2 := Nat.le_trans hb1.size hg2
        replace hb21 := btrans hb1 hb21
        clear hR2 h2 hne2 hc2 hb1 i1
        go_wp2_with fail
        refine (D2.out _ _ _ _ R21).mono ?_
        rintro e w22 ⟨hg22, ⟨b22, c22, rfl, h22, _, _⟩, R22⟩
        have hb22 := rdr_grown hb21 hg22 hg2
        clear hg22 hb21 R21
        go_wp2_with fail
        refine (err_any _ _ _ _ _ _ _ R22.rdr).mono ?_
        rintro e w23 ⟨rfl, rfl⟩
        have hb2 := hb22
        have i2 := i00.below hb2
        clear R22 hb22
        go_wp2_with fail
        refine (from_any _ a0 bs.length k0 bs i2 rfl (by omega)).mono ?_
        rintro e w31 ⟨g3, a3, c3, rfl, hg3, h3, hne3, hR3, hb31, hc3⟩
        have R31 : RD w31 g3 a3 c3 bs 0 0 := ⟨hR3, h3, fun ad h => (hne3.out ad h).2, Nat.zero_le _, hc3, by omega, X4.out⟩
        replace hg3 := Nat.le_trans hb2.size hg3
        replace hb31 := btrans hb2 hb31
        clear hR3 h3 hne3 hc3 hb2 i2
        go_wp2_with fail
        refine (D3.out _ _ _ _ R31).mono ?_
        rintro e w32 ⟨hg32, rfl, R32⟩
        have hb32 := rdr_grown hb31 hg32 hg3
        clear hg32 hb31 R31
        go_wp2_with fail
        refine (err_any _ _ _ _ _ _ _ R32.rdr).mono ?_
        rintro e w33 ⟨rfl, rfl⟩
        go_wp2_with fail
        refine (ON3.out _).mono ?_
        rintro e w33 ⟨b33, c33, rfl, ho33, hb33⟩
        have R33 := R32.below hb33
        have h33 := NumsAt.of_owns ho33
        replace hb33 := btrans hb32 hb33
        clear hb32 R32 ho33
        go_wp2_with fail
        refine (Left_any _ _ _ _ _ _ _ R33).mono ?_
        rintro e w34 ⟨rfl, n34, rfl⟩
        have hsub := hsub3.out
        have hs := hs3.out
        have hpos := hpos3.out
        have i34 := i00.below (bdrewN hb33 n34)
        go_wp2_with fail
        refine (EQ3.out _ _ _ _ _ (h33.drewN n34) (UP3.out _ _ i34)).mono ?_
        rintro e w35 ⟨rfl, n35, rfl⟩
        have hb3 := bdrewN hb33 (n34 + n35)
        have i3 := i00.below hb3
        clear hsub hs hpos R33 h33 hb33 i34
        go_wp2_with fail
        refine (works_true _).mono ?_
        rintro e w9 ⟨rfl, hb9⟩
        replace hb9 := btrans hb3 hb9
        go_wp2
        go_ret
        exact ⟨rfl, hb9⟩
      · have hb3' : (e3 != 0) = true := by simpa using he3
        clear F3 he3
        have i00 := i0
        have hb0 := Below.refl W.heap.size W
        go_enter Try.func8, Try.ntmps8
        go_wp2_with fail
        refine (from_any _ a0 bs.length k0 bs i0 rfl (by omega)).mono ?_
        rintro e w11 ⟨g1, a1, c1, rfl, hg1, h1, hne1, hR1, hb11, hc1⟩
        have R11 : RD w11 g1 a1 c1 bs 0 0 := ⟨hR1, h1, fun ad h => (hne1.out ad h).2, Nat.zero_le _, hc1, by omega, X4.out⟩
        replace hg1 := Nat.le_trans hb0.size hg1
        replace hb11 := btrans hb0 hb11
        clear hR1 h1 hne1 hc1 hb0 i0
        go_wp2_with fail
        refine (D1.out _ _ _ _ R11).mono ?_
        rintro e w12 ⟨hg12, rfl, R12⟩
        have hb12 := rdr_grown hb11 hg12 hg1
        clear hg12 hb11 R11
        go_wp2_with fail
        refine (err_any _ _ _ _ _ _ _ R12.rdr).mono ?_
        rintro e w13 ⟨rfl, rfl⟩
        go_wp2_with fail
        refine (ON1.out _).mono ?_
        rintro e w13 ⟨b13, c13, rfl, ho13, hb13⟩
        have R13 := R12.below hb13
        have h13 := NumsAt.of_owns ho13
        replace hb13 := btrans hb12 hb13
        clear hb12 R12 ho13
        go_wp2_with fail
        refine (Left_any _ _ _ _ _ _ _ R13).mono ?_
        rintro e w14 ⟨rfl, n14, rfl⟩
        have hsub := hsub1.out
        have hs := hs1.out
        have hpos := hpos1.out
        have i14 := i00.below (bdrewN hb13 n14)
        go_wp2_with fail
        refine (EQ1.out _ _ _ _ _ (h13.drewN n14) (UP1.out _ _ i14)).mono ?_
        rintro e w15 ⟨rfl, n15, rfl⟩
        have hb1 := bdrewN hb13 (n14 + n15)
        have i1 := i00.below hb1
        clear hsub hs hpos R13 h13 hb13 i14
        go_wp2_with fail
        refine (from_any _ a0 bs.length k0 bs i1 rfl (by omega)).mono ?_
        rintro e w21 ⟨g2, a2, c2, rfl, hg2, h2, hne2, hR2, hb21, hc2⟩
        have R21 : RD w21 g2 a2 c2 bs 0 0 := ⟨hR2, h2, fun ad h => (hne2.out ad h).2, Nat.zero_le _, hc2, by omega, X4.out⟩
        replace hg2 := Nat.le_trans hb1.size hg2
        replace hb21 := btrans hb1 hb21
        clear hR2 h2 hne2 hc2 hb1 i1
        go_wp2_with fail
        refine (D2.out _ _ _ _ R21).mono ?_
        rintro e w22 ⟨hg22, ⟨b22, c22, rfl, h22, _, _⟩, R22⟩
        have hb22 := rdr_grown hb21 hg22 hg2
        clear hg22 hb21 R21
        go_wp2_with fail
        refine (err_any _ _ _ _ _ _ _ R22.rdr).mono ?_
        rintro e w23 ⟨rfl, rfl⟩
        have hb2 := hb22
        have i2 := i00.below hb2
        clear R22 hb22
        go_wp2_with fail
        refine (from_any _ a0 bs.length k0 bs i2 rfl (by omega)).mono ?_
        rintro e w31 ⟨g3, a3, c3, rfl, hg3, h3, hne3, hR3, hb31, hc3⟩
        have R31 : RD w31 g3 a3 c3 bs 0 0 := ⟨hR3, h3, fun ad h => (hne3.out ad h).2, Nat.zero_le _, hc3, by omega, X4.out⟩
        replace hg3 := Nat.le_trans hb2.size hg3
        replace hb31 := btrans hb2 hb31
        clear hR3 h3 hne3 hc3 hb2 i2
        go_wp2_with fail
        refine (D3.out _ _ _ _ R31).mono ?_
        rintro e w32 ⟨hg32, rfl, R32⟩
        have hb32 := rdr_grown hb31 hg32 hg3
        clear hg32 hb31 R31
        go_wp2_with fail
        refine (err_any _ _ _ _ _ _ _ R32.rdr).mono ?_
        rintro e w33 ⟨rfl, rfl⟩
        have hb3 := hb32
        have i3 := i00.below hb3
        clear R32 hb32
        go_wp2_with fail
        refine (works_true _).mono ?_
        rintro e w9 ⟨rfl, hb9⟩
        replace hb9 := btrans hb3 hb9
        go_wp2
        go_ret
        exact ⟨rfl, hb9⟩
  · have hb1' : (e1 == 0) = false := by simpa using he1
    clear F1 he1
    rcases Decidable.em (e2 = 0) with rfl | he2
    · obtain ⟨ht2, hle2, hll2, hn2⟩ := F2.out _ _ rfl
      have ht2 : bs.take p2 = [] ++ Octet.one l2.length ++ Octet.ones l2 := ht2
      have hlen2 : (bs.take p2).length = p2 := by rw [List.length_take]; omega
      have hpos2 : (0 : Int) < p2 := by have := Octet.one_pos (l2.length : Int); have h := congrArg List.length ht2; simp only [List.nil_append, List.length_append] at h; omega
      have ON2 := fun w' b c h => olist_any w' none 0 0 [] (NumsAt.nil _ _ _) rfl (by omega) b l2.length c l2 h rfl (by omega) (fun x hx => wf_i64 (hn2 x hx))
      rw [← ht2] at ON2
      have EQ2 := fun w' a b c c' h h' => eqb_yes2 (w := w') (a := a) (b := b) (l := bs.take p2) (c0 := c) (c1 := c') h h' (by rw [hlen2]; omega)
      have UP2 := fun w' a (h : NumsAt .u8 w' a bs) => h.upto p2
      clear hn2 ht2 F2
      generalize bs.take p2 = L2 at ON2 EQ2 hlen2 UP2
      subst hlen2
      replace ON2 := Lib.hid ON2
      replace EQ2 := Lib.hid EQ2
      replace UP2 := Lib.hid UP2
      have hs2 := fun w => run_cut_h (P := Try.prog) Try.underlying25 Try.sizeByte a0 bs.length k0 L2.length (kh := .i64) (H := (L2.length : Int)) rfl (by omega) w
      have hsub2 : (bs.length : Int) - ((bs.length : Int) - (L2.length : Int)) = (L2.length : Int) := by omega
      replace hs2 := Lib.hid hs2
      replace hsub2 := Lib.hid hsub2
      replace hpos2 := Lib.hid hpos2
      rcases Decidable.em (e3 = 0) with rfl | he3
      · obtain ⟨ht3, hle3, hll3, hn3⟩ := F3.out _ _ rfl
        have ht3 : bs.take p3 = [] ++ Octet.one t3.length ++ t3 := ht3
        have hlen3 : (bs.take p3).length = p3 := by rw [List.length_take]; omega
        have hpos3 : (0 : Int) < p3 := by have := Octet.one_pos (t3.length : Int); have h := congrArg List.length ht3; simp only [List.nil_append, List.length_append] at h; omega
        have ON3 := fun w' => otext_any w' none 0 0 [] (NumsAt.nil _ _ _) rfl (by omega) (strOfNums t3) (by rw [str_size]; omega)
        rw [str_size, txt_str hn3] at ON3
        rw [← ht3] at ON3
        have EQ3 := fun w' a b c c' h h' => eqb_yes2 (w := w') (a := a) (b := b) (l := bs.take p3) (c0 := c) (c1 := c') h h' (by rw [hlen3]; omega)
        have UP3 := fun w' a (h : NumsAt .u8 w' a bs) => h.upto p3
        clear hn3 ht3 F3
        generalize bs.take p3 = L3 at ON3 EQ3 hlen3 UP3
        subst hlen3
        replace ON3 := Lib.hid ON3
        replace EQ3 := Lib.hid EQ3
        replace UP3 := Lib.hid UP3
        have hs3 := fun w => run_cut_h (P := Try.prog) Try.underlying25 Try.sizeByte a0 bs.length k0 L3.length (kh := .i64) (H := (L3.length : Int)) rfl (by omega) w
        have hsub3 : (bs.length : Int) - ((bs.length : Int) - (L3.length : Int)) = (L3.length : Int) := by omega
        replace hs3 := Lib.hid hs3
        replace hsub3 := Lib.hid hsub3
        replace hpos3 := Lib.hid hpos3
        have i00 := i0
        have hb0 := Below.refl W.heap.size W
        go_enter Try.func8, Try.ntmps8
        go_wp2_with fail
        refine (from_any _ a0 bs.length k0 bs i0 rfl (by omega)).mono ?_
        rintro e w11 ⟨g1, a1, c1, rfl, hg1, h1, hne1, hR1, hb11, hc1⟩
        have R11 : RD w11 g1 a1 c1 bs 0 0 := ⟨hR1, h1, fun ad h => (hne1.out ad h).2, Nat.zero_le _, hc1, by omega, X4.out⟩
        replace hg1 := Nat.le_trans hb0.size hg1
        replace hb11 := btrans hb0 hb11
        clear hR1 h1 hne1 hc1 hb0 i0
        go_wp2_with fail
        refine (D1.out _ _ _ _ R11).mono ?_
        rintro e w12 ⟨hg12, rfl, R12⟩
        have hb12 := rdr_grown hb11 hg12 hg1
        clear hg12 hb11 R11
        go_wp2_with fail
        refine (err_any _ _ _ _ _ _ _ R12.rdr).mono ?_
        rintro e w13 ⟨rfl, rfl⟩
        have hb1 := hb12
        have i1 := i00.below hb1
        clear R12 hb12
        go_wp2_with fail
        refine (from_any _ a0 bs.length k0 bs i1 rfl (by omega)).mono ?_
        rintro e w21 ⟨g2, a2, c2, rfl, hg2, h2, hne2, hR2, hb21, hc2⟩
        have R21 : RD w21 g2 a2 c2 bs 0 0 := ⟨hR2, h2, fun ad h => (hne2.out ad h).2, Nat.zero_le _, hc2, by omega, X4.out⟩
        replace hg2 := Nat.le_trans hb1.size hg2
        replace hb21 := btrans hb1 hb21
        clear hR2 h2 hne2 hc2 hb1 i1
        go_wp2_with fail
        refine (D2.out _ _ _ _ R21).mono ?_
        rintro e w22 ⟨hg22, ⟨b22, c22, rfl, h22, _, _⟩, R22⟩
        have hb22 := rdr_grown hb21 hg22 hg2
        clear hg22 hb21 R21
        go_wp2_with fail
        refine (err_any _ _ _ _ _ _ _ R22.rdr).mono ?_
        rintro e w23 ⟨rfl, rfl⟩
        go_wp2_with fail
        refine (ON2.out _ _ _ h22).mono ?_
        rintro e w23 ⟨b23, c23, rfl, h23, hb23, _⟩
        have R23 := R22.below hb23
        replace hb23 := btrans hb22 hb23
        clear hb22 R22
        go_wp2_with fail
        refine (Left_any _ _ _ _ _ _ _ R23).mono ?_
        rintro e w24 ⟨rfl, n24, rfl⟩
        have hsub := hsub2.out
        have hs := hs2.out
        have hpos := hpos2.out
        have i24 := i00.below (bdrewN hb23 n24)
        go_wp2_with fail
        refine (EQ2.out _ _ _ _ _ (h23.drewN n24) (UP2.out _ _ i24)).mono ?_
        rintro e w25 ⟨rfl, n25, rfl⟩
        have hb2 := bdrewN hb23 (n24 + n25)
        have i2 := i00.below hb2
        clear hsub hs hpos R23 h23 hb23 i24
        go_wp2_with fail
        refine (from_any _ a0 bs.length k0 bs i2 rfl (by omega)).mono ?_
        rintro e w31 ⟨g3, a3, c3, rfl, hg3, h3, hne3, hR3, hb31, hc3⟩
        have R31 : RD w31 g3 a3 c3 bs 0 0 := ⟨hR3, h3, fun ad h => (hne3.out ad h).2, Nat.zero_le _, hc3, by omega, X4.out⟩
        replace hg3 := Nat.le_trans hb2.size hg3
        replace hb31 := btrans hb2 hb31
        clear hR3 h3 hne3 hc3 hb2 i2
        go_wp2_with fail
        refine (D3.out _ _ _ _ R31).mono ?_
        rintro e w32 ⟨hg32, rfl, R32⟩
        have hb32 := rdr_grown hb31 hg32 hg3
        clear hg32 hb31 R31
        go_wp2_with fail
        refine (err_any _ _ _ _ _ _ _ R32.rdr).mono ?_
        rintro e w33 ⟨rfl, rfl⟩
        go_wp2_with fail
        refine (ON3.out _).mono ?_
        rintro e w33 ⟨b33, c33, rfl, ho33, hb33⟩
        have R33 := R32.below hb33
        have h33 := NumsAt.of_owns ho33
        replace hb33 := btrans hb32 hb33
        clear hb32 R32 ho33
        go_wp2_with fail
        refine (Left_any _ _ _ _ _ _ _ R33).mono ?_
        rintro e w34 ⟨rfl, n34, rfl⟩
        have hsub := hsub3.out
        have hs := hs3.out
        have hpos := hpos3.out
        have i34 := i00.below (bdrewN hb33 n34)
        go_wp2_with fail
        refine (EQ3.out _ _ _ _ _ (h33.drewN n34) (UP3.out _ _ i34)).mono ?_
        rintro e w35 ⟨rfl, n35, rfl⟩
        have hb3 := bdrewN hb33 (n34 + n35)
        have i3 := i00.below hb3
        clear hsub hs hpos R33 h33 hb33 i34
        go_wp2_with fail
        refine (works_true _).mono ?_
        rintro e w9 ⟨rfl, hb9⟩
        replace hb9 := btrans hb3 hb9
        go_wp2
        go_ret
        exact ⟨rfl, hb9⟩
      · have hb3' : (e3 != 0) = true := by simpa using he3
        clear F3 he3
        have i00 := i0
        have hb0 := Below.refl W.heap.size W
        go_enter Try.func8, Try.ntmps8
        go_wp2_with fail
        refine (from_any _ a0 bs.length k0 bs i0 rfl (by omega)).mono ?_
        rintro e w11 ⟨g1, a1, c1, rfl, hg1, h1, hne1, hR1, hb11, hc1⟩
        have R11 : RD w11 g1 a1 c1 bs 0 0 := ⟨hR1, h1, fun ad h => (hne1.out ad h).2, Nat.zero_le _, hc1, by omega, X4.out⟩
        replace hg1 := Nat.le_trans hb0.size hg1
        replace hb11 := btrans hb0 hb11
        clear hR1 h1 hne1 hc1 hb0 i0
        go_wp2_with fail
        refine (D1.out _ _ _ _ R11).mono ?_
        rintro e w12 ⟨hg12, rfl, R12⟩
        have hb12 := rdr_grown hb11 hg12 hg1
        clear hg12 hb11 R11
        go_wp2_with fail
        refine (err_any _ _ _ _ _ _ _ R12.rdr).mono ?_
        rintro e w13 ⟨rfl, rfl⟩
        have hb1 := hb12
        have i1 := i00.below hb1
        clear R12 hb12
        go_wp2_with fail
        refine (from_any _ a0 bs.length k0 bs i1 rfl (by omega)).mono ?_
        rintro e w21 ⟨g2, a2, c2, rfl, hg2, h2, hne2, hR2, hb21, hc2⟩
        have R21 : RD w21 g2 a2 c2 bs 0 0 := ⟨hR2, h2, fun ad h => (hne2.out ad h).2, Nat.zero_le _, hc2, by omega, X4.out⟩
        replace hg2 := Nat.le_trans hb1.size hg2
        replace hb21 := btrans hb1 hb21
        clear hR2 h2 hne2 hc2 hb1 i1
        go_wp2_with fail
        refine (D2.out _ _ _ _ R21).mono ?_
        rintro e w22 ⟨hg22, ⟨b22, c22, rfl, h22, _, _⟩, R22⟩
        have hb22 := rdr_grown hb21 hg22 hg2
        clear hg22 hb21 R21
        go_wp2_with fail
        refine (err_any _ _ _ _ _ _ _ R22.rdr).mono ?_
        rintro e w23 ⟨rfl, rfl⟩
        go_wp2_with fail
        refine (ON2.out _ _ _ h22).mono ?_
        rintro e w23 ⟨b23, c23, rfl, h23, hb23, _⟩
        have R23 := R22.below hb23
        replace hb23 := btrans hb22 hb23
        clear hb22 R22
        go_wp2_with fail
        refine (Left_any _ _ _ _ _ _ _ R23).mono ?_
        rintro e w24 ⟨rfl, n24, rfl⟩
        have hsub := hsub2.out
        have hs := hs2.out
        have hpos := hpos2.out
        have i24 := i00.below (bdrewN hb23 n24)
        go_wp2_with fail
        refine (EQ2.out _ _ _ _ _ (h23.drewN n24) (UP2.out _ _ i24)).mono ?_
        rintro e w25 ⟨rfl, n25, rfl⟩
        have hb2 := bdrewN hb23 (n24 + n25)
        have i2 := i00.below hb2
        clear hsub hs hpos R23 h23 hb23 i24
        go_wp2_with fail
        refine (from_any _ a0 bs.length k0 bs i2 rfl (by omega)).mono ?_
        rintro e w31 ⟨g3, a3, c3, rfl, hg3, h3, hne3, hR3, hb31, hc3⟩
        have R31 : RD w31 g3 a3 c3 bs 0 0 := ⟨hR3, h3, fun ad h => (hne3.out ad h).2, Nat.zero_le _, hc3, by omega, X4.out⟩
        replace hg3 := Nat.le_trans hb2.size hg3
        replace hb31 := btrans hb2 hb31
        clear hR3 h3 hne3 hc3 hb2 i2
        go_wp2_with fail
        refine (D3.out _ _ _ _ R31).mono ?_
        rintro e w32 ⟨hg32, rfl, R32⟩
        have hb32 := rdr_grown hb31 hg32 hg3
        clear hg32 hb31 R31
        go_wp2_with fail
        refine (err_any _ _ _ _ _ _ _ R32.rdr).mono ?_
        rintro e w33 ⟨rfl, rfl⟩
        have hb3 := hb32
        have i3 := i00.below hb3
        clear R32 hb32
        go_wp2_with fail
        refine (works_true _).mono ?_
        rintro e w9 ⟨rfl, hb9⟩
        replace hb9 := btrans hb3 hb9
        go_wp2
        go_ret
        exact ⟨rfl, hb9⟩
    · have hb2' : (e2 == 0) = false := by simpa using he2
      clear F2 he2
      rcases Decidable.em (e3 = 0) with rfl | he3
      · obtain ⟨ht3, hle3, hll3, hn3⟩ := F3.out _ _ rfl
        have ht3 : bs.take p3 = [] ++ Octet.one t3.length ++ t3 := ht3
        have hlen3 : (bs.take p3).length = p3 := by rw [List.length_take]; omega
        have hpos3 : (0 : Int) < p3 := by have := Octet.one_pos (t3.length : Int); have h := congrArg List.length ht3; simp only [List.nil_append, List.length_append] at h; omega
        have ON3 := fun w' => otext_any w' none 0 0 [] (NumsAt.nil _ _ _) rfl (by omega) (strOfNums t3) (by rw [str_size]; omega)
        rw [str_size, txt_str hn3] at ON3
        rw [← ht3] at ON3
        have EQ3 := fun w' a b c c' h h' => eqb_yes2 (w := w') (a := a) (b := b) (l := bs.take p3) (c0 := c) (c1 := c') h h' (by rw [hlen3]; omega)
        have UP3 := fun w' a (h : NumsAt .u8 w' a bs) => h.upto p3
        clear hn3 ht3 F3
        generalize bs.take p3 = L3 at ON3 EQ3 hlen3 UP3
        subst hlen3
        replace ON3 := Lib.hid ON3
        replace EQ3 := Lib.hid EQ3
        replace UP3 := Lib.hid UP3
        have hs3 := fun w => run_cut_h (P := Try.prog) Try.underlying25 Try.sizeByte a0 bs.length k0 L3.length (kh := .i64) (H := (L3.length : Int)) rfl (by omega) w
        have hsub3 : (bs.length : Int) - ((bs.length : Int) - (L3.length : Int)) = (L3.length : Int) := by omega
        replace hs3 := Lib.hid hs3
        replace hsub3 := Lib.hid hsub3
        replace hpos3 := Lib.hid hpos3
        have i00 := i0
        have hb0 := Below.refl W.heap.size W
        go_enter Try.func8, Try.ntmps8
        go_wp2_with fail
        refine (from_any _ a0 bs.length k0 bs i0 rfl (by omega)).mono ?_
        rintro e w11 ⟨g1, a1, c1, rfl, hg1, h1, hne1, hR1, hb11, hc1⟩
        have R11 : RD w11 g1 a1 c1 bs 0 0 := ⟨hR1, h1, fun ad h => (hne1.out ad h).2, Nat.zero_le _, hc1, by omega, X4.out⟩
        replace hg1 := Nat.le_trans hb0.size hg1
        replace hb11 := btrans hb0 hb11
        clear hR1 h1 hne1 hc1 hb0 i0
        go_wp2_with fail
        refine (D1.out _ _ _ _ R11).mono ?_
        rintro e w12 ⟨hg12, rfl, R12⟩
        have hb12 := rdr_grown hb11 hg12 hg1
        clear hg12 hb11 R11
        go_wp2_with fail
        refine (err_any _ _ _ _ _ _ _ R12.rdr).mono ?_
        rintro e w13 ⟨rfl, rfl⟩
        have hb1 := hb12
        have i1 := i00.below hb1
        clear R12 hb12
        go_wp2_with fail
        refine (from_any _ a0 bs.length k0 bs i1 rfl (by omega)).mono ?_
        rintro e w21 ⟨g2, a2, c2, rfl, hg2, h2, hne2, hR2, hb21, hc2⟩
        have R21 : RD w21 g2 a2 c2 bs 0 0 := ⟨hR2, h2, fun ad h => (hne2.out ad h).2, Nat.zero_le _, hc2, by omega, X4.out⟩
        replace hg2 := Nat.le_trans hb1.size hg2
        replace hb21 := btrans hb1 hb21
        clear hR2 h2 hne2 hc2 hb1 i1
        go_wp2_with fail
        refine (D2.out _ _ _ _ R21).mono ?_
        rintro e w22 ⟨hg22, ⟨b22, c22, rfl, h22, _, _⟩, R22⟩
        have hb22 := rdr_grown hb21 hg22 hg2
        clear hg22 hb21 R21
        go_wp2_with fail
        refine (err_any _ _ _ _ _ _ _ R22.rdr).mono ?_
        rintro e w23 ⟨rfl, rfl⟩
        have hb2 := hb22
        have i2 := i00.below hb2
        clear R22 hb22
        go_wp2_with fail
        refine (from_any _ a0 bs.length k0 bs i2 rfl (by omega)).mono ?_
        rintro e w31 ⟨g3, a3, c3, rfl, hg3, h3, hne3, hR3, hb31, hc3⟩
        have R31 : RD w31 g3 a3 c3 bs 0 0 := ⟨hR3, h3, fun ad h => (hne3.out ad h).2, Nat.zero_le _, hc3, by omega, X4.out⟩
        replace hg3 := Nat.le_trans hb2.size hg3
        replace hb31 := btrans hb2 hb31
        clear hR3 h3 hne3 hc3 hb2 i2
        go_wp2_with fail
        refine (D3.out _ _ _ _ R31).mono ?_
        rintro e w32 ⟨hg32, rfl, R32⟩
        have hb32 := rdr_grown hb31 hg32 hg3
        clear hg32 hb31 R31
        go_wp2_with fail
        refine (err_any _ _ _ _ _ _ _ R32.rdr).mono ?_
        rintro e w33 ⟨rfl, rfl⟩
        go_wp2_with fail
        refine (ON3.out _).mono ?_
        rintro e w33 ⟨b33, c33, rfl, ho33, hb33⟩
        have R33 := R32.below hb33
        have h33 := NumsAt.of_owns ho33
        replace hb33 := btrans hb32 hb33
        clear hb32 R32 ho33
        go_wp2_with fail
        refine (Left_any _ _ _ _ _ _ _ R33).mono ?_
        rintro e w34 ⟨rfl, n34, rfl⟩
        have hsub := hsub3.out
        have hs := hs3.out
        have hpos := hpos3.out
        have i34 := i00.below (bdrewN hb33 n34)
        go_wp2_with fail
        refine (EQ3.out _ _ _ _ _ (h33.drewN n34) (UP3.out _ _ i34)).mono ?_
        rintro e w35 ⟨rfl, n35, rfl⟩
        have hb3 := bdrewN hb33 (n34 + n35)
        have i3 := i00.below hb3
        clear hsub hs hpos R33 h33 hb33 i34
        go_wp2_with fail
        refine (works_true _).mono ?_
        rintro e w9 ⟨rfl, hb9⟩
        replace hb9 := btrans hb3 hb9
        go_wp2
        go_ret
        exact ⟨rfl, hb9⟩
      · have hb3' : (e3 != 0) = true := by simpa using he3
        clear F3 he3
        have i00 := i0
        have hb0 := Below.refl W.heap.size W
        go_enter Try.func8, Try.ntmps8
        go_wp2_with fail
        refine (from_any _ a0 bs.length k0 bs i0 rfl (by omega)).mono ?_
        rintro e w11 ⟨g1, a1, c1, rfl, hg1, h1, hne1, hR1, hb11, hc1⟩
        have R11 : RD w11 g1 a1 c1 bs 0 0 := ⟨hR1, h1, fun ad h => (hne1.out ad h).2, Nat.zero_le _, hc1, by omega, X4.out⟩
        replace hg1 := Nat.le_trans hb0.size hg1
        replace hb11 := btrans hb0 hb11
        clear hR1 h1 hne1 hc1 hb0 i0
        go_wp2_with fail
        refine (D1.out _ _ _ _ R11).mono ?_
        rintro e w12 ⟨hg12, rfl, R12⟩
        have hb12 := rdr_grown hb11 hg12 hg1
        clear hg12 hb11 R11
        go_wp2_with fail
        refine (err_any _ _ _ _ _ _ _ R12.rdr).mono ?_
        rintro e w13 ⟨rfl, rfl⟩
        have hb1 := hb12
        have i1 := i00.below hb1
        clear R12 hb12
        go_wp2_with fail
        refine (from_any _ a0 bs.length k0 bs i1 rfl (by omega)).mono ?_
        rintro e w21 ⟨g2, a2, c2, rfl, hg2, h2, hne2, hR2, hb21, hc2⟩
        have R21 : RD w21 g2 a2 c2 bs 0 0 := ⟨hR2, h2, fun ad h => (hne2.out ad h).2, Nat.zero_le _, hc2, by omega, X4.out⟩
        replace hg2 := Nat.le_trans hb1.size hg2
        replace hb21 := btrans hb1 hb21
        clear hR2 h2 hne2 hc2 hb1 i1
        go_wp2_with fail
        refine (D2.out _ _ _ _ R21).mono ?_
        rintro e w22 ⟨hg22, ⟨b22, c22, rfl, h22, _, _⟩, R22⟩
        have hb22 := rdr_grown hb21 hg22 hg2
        clear hg22 hb21 R21
        go_wp2_with fail
        refine (err_any _ _ _ _ _ _ _ R22.rdr).mono ?_
        rintro e w23 ⟨rfl, rfl⟩
        have hb2 := hb22
        have i2 := i00.below hb2
        clear R22 hb22
        go_wp2_with fail
        refine (from_any _ a0 bs.length k0 bs i2 rfl (by omega)).mono ?_
        rintro e w31 ⟨g3, a3, c3, rfl, hg3, h3, hne3, hR3, hb31, hc3⟩
        have R31 : RD w31 g3 a3 c3 bs 0 0 := ⟨hR3, h3, fun ad h => (hne3.out ad h).2, Nat.zero_le _, hc3, by omega, X4.out⟩
        replace hg3 := Nat.le_trans hb2.size hg3
        replace hb31 := btrans hb2 hb31
        clear hR3 h3 hne3 hc3 hb2 i2
        go_wp2_with fail
        refine (D3.out _ _ _ _ R31).mono ?_
        rintro e w32 ⟨hg32, rfl, R32⟩
        have hb32 := rdr_grown hb31 hg32 hg3
        clear hg32 hb31 R31
        go_wp2_with fail
        refine (err_any _ _ _ _ _ _ _ R32.rdr).mono ?_
        rintro e w33 ⟨rfl, rfl⟩
        have hb3 := hb32
        have i3 := i00.below hb3
        clear R32 hb32
        go_wp2_with fail
        refine (works_true _).mono ?_
        rintro e w9 ⟨rfl, hb9⟩
        replace hb9 := btrans hb3 hb9
        go_wp2
        go_ret
        exact ⟨rfl, hb9⟩
end Go.Proofs.Ytpnkfhfaoomdpaa
