/- The walk of layer octet's law on what is handed in. No conditions but the form's reach. -/
import Derived.Test.YtpnkfhfaoomdpaaOctetBack
namespace Go.Proofs.Ytpnkfhfaoomdpaa
open Go.RowKit

/-- a reader that nobody made -/
def NoR (w : World) (v : Value) : Prop := v = .pointer none ∨ ∃ g, v = .pointer (some ⟨g, 0, none⟩) ∧ w.cell? ⟨g, 3, none⟩ = some (.bool false)
theorem NoR.nil (w : World) : NoR w (.pointer none) := .inl rfl
theorem none_no (w : World) (v : Value) (h : NoR w v) : Calls Try.prog 33 #[v] w fun r w' => r = .returned (.bool true) ∧ w = w' := by
  rcases h with rfl | ⟨g, rfl, c3⟩
  · go_enter Try.func33, Try.ntmps33
    go_wp2
    go_ret
    exact ⟨rfl, rfl⟩
  · go_enter Try.func33, Try.ntmps33
    go_wp2
    go_ret
    exact ⟨rfl, rfl⟩
theorem err_no (w : World) (v : Value) (h : NoR w v) : Calls Try.prog 26 #[v] w fun r w' => r = .returned (.int .i64 1) ∧ w = w' := by
  rcases h with rfl | ⟨g, rfl, c3⟩
  · go_enter Try.func26, Try.ntmps26
    go_wp2
    go_ret
    exact ⟨rfl, rfl⟩
  · go_enter Try.func26, Try.ntmps26
    go_wp2
    go_ret
    exact ⟨rfl, rfl⟩
theorem left_no (w : World) (v : Value) (h : NoR w v) : Calls Try.prog 27 #[v] w fun r w' => r = .returned (.int .i64 0) ∧ w = w' := by
  rcases h with rfl | ⟨g, rfl, c3⟩
  · go_enter Try.func27, Try.ntmps27
    go_wp2
    go_ret
    exact ⟨rfl, rfl⟩
  · go_enter Try.func27, Try.ntmps27
    go_wp2
    go_ret
    exact ⟨rfl, rfl⟩
theorem num_no (w : World) (v : Value) (h : NoR w v) : Calls Try.prog 21 #[v] w fun r w' => r = .returned (.int .i64 0) ∧ w = w' := by
  have NN := Lib.hid (none_no w v h)
  clear h
  go_enter Try.func21, Try.ntmps21
  go_wp2_with fail
  refine NN.out.mono ?_
  rintro r w1 ⟨rfl, rfl⟩
  go_wp2
  go_ret
  exact ⟨rfl, rfl⟩
theorem list_no (w : World) (v : Value) (h : NoR w v) : Calls Try.prog 23 #[v] w fun r w' => r = .returned (.slice none 0 0) ∧ w = w' := by
  have NN := Lib.hid (none_no w v h)
  clear h
  go_enter Try.func23, Try.ntmps23
  go_wp2_with fail
  refine NN.out.mono ?_
  rintro r w1 ⟨rfl, rfl⟩
  go_wp2
  go_ret
  exact ⟨rfl, rfl⟩
theorem text_no (w : World) (v : Value) (h : NoR w v) : Calls Try.prog 25 #[v] w fun r w' => r = .returned (.string ⟨#[]⟩) ∧ w = w' := by
  have NN := Lib.hid (none_no w v h)
  clear h
  go_enter Try.func25, Try.ntmps25
  go_wp2_with fail
  refine NN.out.mono ?_
  rintro r w1 ⟨rfl, rfl⟩
  go_wp2
  go_ret
  exact ⟨rfl, rfl⟩

theorem eqb_yes2 {w : World} {a b : Option Addr} {l : List Int} {c0 c1 : Nat} (h0 : NumsAt .u8 w a l) (h1 : NumsAt .u8 w b l) (hl : l.length ≤ 9223372036854775807) :
    Calls Try.prog 12 #[.slice a l.length c0, .slice b l.length c1] w fun e w' => e = .returned (.bool true) ∧ Quiet w w' := by
  have := eq_bytes w a b l.length c0 l.length c1 l l h0 h1 rfl rfl hl hl
  rwa [decide_eq_true rfl] at this
/-- a reader stays where another block is written -/
theorem RD.apart {w w' : World} {g : Nat} {a : Option Addr} {cap : Nat} {bs : List Int} {p : Nat} {e : Int} (h : RD w g a cap bs p e) {row : Option Nat} (hg : w.grownBy w' row) (h1 : row ≠ some g) (h2 : ∀ ad : Addr, a = some ad → 0 < bs.length → row ≠ some ad.block) : RD w' g a cap bs p e :=
  ⟨(hg.block g h.rdr.lt (fun e => h1 e.symm)).trans h.rdr, fun h0 => h.nums.keep (fun ad had hlt => hg.block _ hlt (fun e => h2 ad had h0 e.symm)) h0, h.ne, h.hp, h.hc, h.hb, h.hx⟩
theorem NumsAt.apart {k : IntKind} {w w' : World} {a : Option Addr} {xs : List Int} (h : NumsAt k w a xs) {row : Option Nat} (hg : w.grownBy w' row) (h2 : ∀ ad : Addr, a = some ad → row ≠ some ad.block) : NumsAt k w' a xs :=
  h.keep (fun ad had hlt => hg.block _ hlt (fun e => h2 ad had e.symm))
theorem cell_apart {w w' : World} {g j : Nat} {v : Value} (h : w.cell? ⟨g, j, none⟩ = some v) {row : Option Nat} (hg : w.grownBy w' row) (h1 : row ≠ some g) : w'.cell? ⟨g, j, none⟩ = some v :=
  (World.cell?_of_block (w := w) (a := ⟨g, j, none⟩) (hg.block g (World.block_lt_of_cell? w _ h) (fun e => h1 e.symm))).trans h

set_option maxHeartbeats 2000000 in
theorem octetOwn_walk (W : World) (v0 : Value) (bs : List Int) (h0 : rSl 1 1 (rInt .u8) W [v0] bs) (n : Int) (hn : -9223372036854775808 ≤ n ∧ n ≤ 9223372036854775807) :
    Calls Try.prog 6 #[v0, .int .i64 n] W fun e w' => e = .returned (.bool true) ∧ Below W.heap.size W w' := by
  obtain ⟨a0, k0, rfl, l0, lc, i0, r0⟩ := NumsAt.of_rSl h0
  clear h0
  by_cases g0 : 300 < bs.length
  · have g0' : (300 : Int) < (bs.length : Int) := by omega
    go_enter Try.func6, Try.ntmps6
    go_wp2_with (go_at_call 10; refine (works_true _).mono ?_; rintro e w' ⟨rfl, hb⟩)
    go_ret
    exact ⟨rfl, by assumption⟩
  have g0' : decide ((300 : Int) < (bs.length : Int)) = false := by simp; omega
  have X4 := Lib.hid (fun x hx => range_u8 (r0.out x hx))
  have one1 := Octet.one_len hn
  have zA : (bs ++ Octet.one n).length ≤ 9223372036854775807 := by rw [List.length_append]; omega
  have zb : bs.length ≤ 9223372036854775807 := by omega
  have ON := Lib.hid (fun w' a c h => onum_any w' a bs.length c bs h rfl (by omega) n hn)
  have RN := Lib.hid (fun w' a c h => rnum_any w' a bs.length c bs h rfl (by omega) n hn)
  clear one1
  generalize bs ++ Octet.one n = lA at ON RN zA
  have zA := Lib.hid zA
  have D1 := fun w' g a c (h : RD w' g a c bs 0 0) => num_fn w' g a c bs 0 0 h
  generalize Octet.rNum bs 0 0 = q1 at D1
  obtain ⟨p1, e1, m1⟩ := q1
  have D1 := Lib.hid D1
  have D2 := fun w' g a c (h : RD w' g a c bs p1 e1) => text_any w' g a c bs p1 e1 h
  generalize Octet.rText bs p1 e1 = q2 at D2
  obtain ⟨p2, e2, t2⟩ := q2
  have D2 := Lib.hid D2
  simp only at D1 D2
  go_enter Try.func6, Try.ntmps6
  go_wp2_with (at_builtin; refine wp_appS rfl _ _ 25 5 .u8 1 rfl Try.underlying25 Try.infoByte W.heap.size _ 0 0 [] rfl (own_empty .u8 W 5 0 W.heap.size (Nat.le_refl _)) a0 bs.length k0 bs rfl rfl (i0.alloc _) (by omega) (by omega) (by simp) ?_)
  intro b1 c1 w1 ho1 hg1
  have hb1 := bgrown (balloc (Below.refl W.heap.size W) _) hg1 (by intro k hk; simp [Value.ownBlock] at hk; omega)
  have ho1 : OwnN .u8 w1 W.heap.size 5 b1 bs.length c1 bs := by simpa using ho1
  have h1 := NumsAt.of_owns ho1
  have hz1 := hb1.size
  have hl1 : Hid (∀ ad : Addr, b1 = some ad → ad.block < w1.heap.size) := fun ad had => (ho1.lt' (by rw [had]; rfl)).2
  clear hg1 ho1
  go_wp2_with (at_builtin; refine wp_appS rfl _ _ 25 5 .u8 1 rfl Try.underlying25 Try.infoByte w1.heap.size _ 0 0 [] rfl (own_empty .u8 w1 5 0 w1.heap.size (Nat.le_refl _)) a0 bs.length k0 bs rfl rfl ((i0.below hb1).alloc _) (by omega) (by omega) (by simp) ?_)
  intro b2 c2 w2 ho2 hg2
  have hb2 := bgrown (balloc (Below.refl w1.heap.size w1) _) hg2 (by intro k hk; simp [Value.ownBlock] at hk; omega)
  have ho2 : OwnN .u8 w2 w1.heap.size 5 b2 bs.length c2 bs := by simpa using ho2
  have h2 := h1.below hb2
  have hb2 := btrans hb1 hb2
  have hz2 := hb2.size
  have hl2 : Hid (∀ j, (Value.slice b2 bs.length c2).ownBlock = some j → w1.heap.size ≤ j ∧ j < w2.heap.size) := fun j hj => ho2.lt' hj
  clear hg2 hb1 h1
  go_wp2_with fail
  refine (from_any w2 b2 bs.length c2 bs (NumsAt.of_owns ho2) rfl (by omega)).mono ?_
  rintro e w3 ⟨g3, a3, c3, rfl, hg3, h3, hne3, hR3, hb3, hc3⟩
  have R3 : RD w3 g3 a3 c3 bs 0 0 := ⟨hR3, h3, fun ad h => (hne3.out ad h).2, Nat.zero_le _, hc3, by omega, X4.out⟩
  have hz3 := hb3.size
  have ho3 := ho2.below' hb3
  have h3w := h2.below hb3
  have hb3 := btrans hb2 hb3
  clear hR3 h3 hb2 ho2 h2
  go_wp2_with fail
  refine (ON.out _ _ _ (NumsAt.of_owns ho3)).mono ?_
  rintro e w4 ⟨b4, c4, rfl, ho4, hb4⟩
  have R4 := R3.below hb4
  have hz4 := hb4.size
  have h4w := h3w.below hb4
  have h4 := NumsAt.of_owns ho4
  have hom4 := ho3.below' hb4
  have hb4 := btrans hb3 hb4
  clear hb3 ho4 ho3 R3 h3w
  go_wp2_with fail
  refine (RN.out _ _ _ h4w).mono ?_
  rintro e w5 ⟨b5, c5, rfl, ho5, hb5⟩
  have R5 := R4.below hb5
  have hz5 := hb5.size
  have h5w := h4w.below hb5
  have h5 := NumsAt.of_owns ho5
  have h4 := h4.below hb5
  have hom5 := hom4.below' hb5
  have hb5 := btrans hb4 hb5
  clear hb4 ho5 hom4 R4 h4w
  go_wp2_with fail
  refine (eqb_yes2 h4 h5 zA.out).mono ?_
  rintro e w6 ⟨rfl, m6, rfl⟩
  have hq6 : Below w5.heap.size w5 (w5.drewN m6) := bdrewN (Below.refl _ _) m6
  have hom6 := hom5.below' hq6
  have h6w := h5w.drewN m6
  go_wp2_with fail
  refine (eqb_yes2 (NumsAt.of_owns hom6) h6w zb).mono ?_
  rintro e w7 ⟨rfl, m7, rfl⟩
  have hq7 : Below w5.heap.size w5 (w5.drewN (m6 + m7)) := bdrewN (Below.refl _ _) _
  have hom7 := hom5.below' hq7
  have h7w := h5w.below hq7
  have R7 := R5.below hq7
  have hb7 := btrans hb5 hq7
  clear hq6 hom6 h6w hom5 R5 h5w hb5 h4 h5
  obtain ⟨w8, hw8⟩ : ∃ w8, w8 = w5.drewN (m6 + m7) := ⟨_, rfl⟩
  rw [← hw8] at hom7 h7w R7 hb7
  have hz8 : w2.heap.size ≤ w8.heap.size := by rw [hw8]; exact Nat.le_trans (by omega) hq7.size
  have HW8 := Lib.hid hw8
  go_wp2
  rw [← HW8.out]
  clear hw8 HW8 hq7
  have H3 := Lib.hid (show w2.heap.size ≤ g3 from hg3)
  have HN3 := Lib.hid hne3.out
  go_loopw [8] (fun iv wr => ∃ (k : Nat) (ys : List Int), k ≤ bs.length ∧ iv = .int .i64 k ∧ OwnN .u8 wr w1.heap.size 5 b2 bs.length c2 ys ∧ w8.grownBy wr (Value.slice b2 bs.length c2).ownBlock) (fun iv _ => bs.length - (intOf iv).toNat)
  case atStart => exact ⟨0, bs, Nat.zero_le _, rfl, hom7, ⟨rfl, rfl, rfl, Nat.le_refl _, fun _ _ _ => rfl⟩⟩
  case round =>
    obtain ⟨k, ys, hk, rfl, ho, hgr⟩ := hrel
    have hyl := owns_len ho
    by_cases hlt : k < bs.length
    · obtain ⟨g, rfl, hgb⟩ := ho.addr (by omega)
      obtain ⟨y, cy, hy⟩ := own_at ho k (by omega)
      have fr := ho.free k
      have ho' := own_set ho k (IntKind.u8.wrap (y + 1))
      have hgr' : w8.grownBy (wr.setCell ⟨g, k, none⟩ (.int .u8 (IntKind.u8.wrap (y + 1)))) (Value.slice (some ⟨g, 0, none⟩) bs.length c2).ownBlock := grown_set (g := g) hgr _ _
      clear hgb
      go_wp2
      go_roundw
      case rel => exact ⟨k + 1, _, by omega, by go_num, ho', hgr'⟩
      case measure => simp [intOf]; omega
    · obtain rfl : k = bs.length := by omega
      have hr1 : Hid (∀ ad : Addr, b1 = some ad → (Value.slice b2 bs.length c2).ownBlock ≠ some ad.block) := fun ad had e => by
        have := hl1.out ad had; have := (hl2.out _ e).1; omega
      have hr3 : Hid ((Value.slice b2 bs.length c2).ownBlock ≠ some g3) := fun e => by
        have := (hl2.out _ e).2; have := H3.out; omega
      have hr4 : Hid (∀ ad : Addr, a3 = some ad → (Value.slice b2 bs.length c2).ownBlock ≠ some ad.block) := fun ad had e => by
        have := (hl2.out _ e).2; have := (HN3.out ad had).1; omega
      have h8 := h7w.apart hgr hr1.out
      have R8 := R7.apart hgr hr3.out (fun ad had _ => hr4.out ad had)
      have hb8 := bgrown hb7 hgr (fun j hj => by have := (hl2.out j hj).1; omega)
      have hzr := hgr.size
      have hg3r := R8.rdr.lt
      have ha3r : Hid (∀ ad : Addr, a3 = some ad → 0 < bs.length → ad.block < wr.heap.size) := fun ad had h0 => R8.nums.lt h0 had
      clear hgr ho hr1 hr3 hr4 h7w R7 hb7 hom7
      go_wp2_with fail
      refine (from_any wr b1 bs.length c1 bs h8 rfl (by omega)).mono ?_
      rintro e w9 ⟨g9, a9, c9, rfl, hg9, h9, hne9, hR9, hb9, hc9⟩
      have Q9 : RD w9 g9 a9 c9 bs 0 0 := ⟨hR9, h9, fun ad h => (hne9.out ad h).2, Nat.zero_le _, hc9, by omega, X4.out⟩
      have R9 := R8.below hb9
      have hz9 := hb9.size
      have hl9 := hR9.lt
      have hb9 := btrans hb8 hb9
      clear hR9 h9 R8 h8
      go_wp2_with fail
      have hbA : Below w9.heap.size w9 (w9.alloc (.cells #[.slice none 0 0, .int .i64 0, .int .i64 0, .bool false] 50)) := balloc (Below.refl _ _) _
      have z10 : (w9.alloc (.cells #[.slice none 0 0, .int .i64 0, .int .i64 0, .bool false] 50)).cell? ⟨w9.heap.size, 3, none⟩ = some (.bool false) := by rw [World.cell?_alloc_at _ _ _ _ rfl]; rfl
      have R10 := R9.below hbA
      have Q10 := Q9.below hbA
      have hb10 := btrans hb9 hbA
      have n93 : Hid (some g9 ≠ some w9.heap.size) := by intro e; cases e; omega
      have n33 : Hid (some g3 ≠ some w9.heap.size) := by intro e; cases e; omega
      have n39 : Hid (some g3 ≠ some g9) := by intro e; cases e; omega
      have ha3 : Hid (∀ ad : Addr, a3 = some ad → 0 < bs.length → some g9 ≠ some ad.block) := fun ad had h0 e => by have := ha3r.out ad had h0; cases e; omega
      have ha9 : Hid (∀ ad : Addr, a9 = some ad → 0 < bs.length → some g3 ≠ some ad.block) := fun ad had h0 e => by have := (hne9.out ad had).1; cases e; omega
      have h3W : W.heap.size ≤ g3 := by have := H3.out; omega
      have h9W : W.heap.size ≤ g9 := by have := hb8.size; omega
      clear R9 Q9 hb9 hb8 hbA
      refine (D1.out _ _ _ _ R10).mono ?_
      rintro e w11 ⟨hg11, rfl, R11⟩
      have Q11 := Q10.apart hg11 n39.out ha9.out
      have z11 := cell_apart z10 hg11 n33.out
      have hb11 := rdr_grown hb10 hg11 h3W
      clear R10 Q10 hg11 z10 hb10
      go_wp2_with fail
      refine (D1.out _ _ _ _ Q11).mono ?_
      rintro e w12 ⟨hg12, rfl, Q12⟩
      have R12 := R11.apart hg12 (fun e => n39.out e.symm) ha3.out
      have z12 := cell_apart z11 hg12 n93.out
      have hb12 := rdr_grown hb11 hg12 h9W
      clear R11 Q11 hg12 z11 hb11
      have hnn : (m1 == m1) = true := by simp
      go_wp2_with fail
      refine (err_any _ g3 _ _ _ _ _ R12.rdr).mono ?_
      rintro e w13 ⟨rfl, rfl⟩
      go_wp2_with fail
      refine (err_any _ g9 _ _ _ _ _ Q12.rdr).mono ?_
      rintro e w13 ⟨rfl, rfl⟩
      have hee : (e1 == e1) = true := by simp
      go_wp2_with fail
      refine (D2.out _ _ _ _ R12).mono ?_
      rintro e w13 ⟨hg13, rfl, R13⟩
      have Q13 := Q12.apart hg13 n39.out ha9.out
      have z13 := cell_apart z12 hg13 n33.out
      have hb13 := rdr_grown hb12 hg13 h3W
      clear R12 Q12 hg13 z12 hb12 R13
      go_wp2_with fail
      refine (D2.out _ _ _ _ Q13).mono ?_
      rintro e w14 ⟨hg14, rfl, Q14⟩
      have z14 := cell_apart z13 hg14 n93.out
      have hb14 := rdr_grown hb13 hg14 h9W
      clear Q13 hg14 z13 hb13 Q14
      have hst := str_self (strOfNums t2)
      go_wp2_with fail
      refine (num_no _ _ (NoR.nil _)).mono ?_
      rintro e w15 ⟨rfl, rfl⟩
      go_wp2_with fail
      refine (num_no _ _ (.inr ⟨_, rfl, z14⟩)).mono ?_
      rintro e w15 ⟨rfl, rfl⟩
      go_wp2_with fail
      refine (left_no _ _ (NoR.nil _)).mono ?_
      rintro e w15 ⟨rfl, rfl⟩
      go_wp2_with fail
      refine (left_no _ _ (.inr ⟨_, rfl, z14⟩)).mono ?_
      rintro e w15 ⟨rfl, rfl⟩
      go_wp2_with fail
      refine (err_no _ _ (NoR.nil _)).mono ?_
      rintro e w15 ⟨rfl, rfl⟩
      go_wp2_with fail
      refine (err_no _ _ (.inr ⟨_, rfl, z14⟩)).mono ?_
      rintro e w15 ⟨rfl, rfl⟩
      go_wp2_with fail
      refine (list_no _ _ (NoR.nil _)).mono ?_
      rintro e w15 ⟨rfl, rfl⟩
      go_wp2_with fail
      refine (list_no _ _ (.inr ⟨_, rfl, z14⟩)).mono ?_
      rintro e w15 ⟨rfl, rfl⟩
      go_wp2_with fail
      refine (text_no _ _ (NoR.nil _)).mono ?_
      rintro e w15 ⟨rfl, rfl⟩
      go_wp2_with fail
      refine (text_no _ _ (.inr ⟨_, rfl, z14⟩)).mono ?_
      rintro e w15 ⟨rfl, rfl⟩
      go_wp2_with fail
      refine (works_true _).mono ?_
      rintro e w16 ⟨rfl, hb16⟩
      have hb16 := btrans hb14 hb16
      go_wp2
      go_ret
      exact ⟨rfl, hb16⟩
end Go.Proofs.Ytpnkfhfaoomdpaa
