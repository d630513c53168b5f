/- The walk of layer octet's law on what was put. No conditions but the form's reach. -/
import Derived.Test.YtpnkfhfaoomdpaaOctetWorks
import Derived.Test.YtpnkfhfaoomdpaaOctetRead5
import Derived.Test.YtpnkfhfaoomdpaaOctetBackPlain2
import Derived.Deep.RegionWith
namespace Go.Proofs.Ytpnkfhfaoomdpaa
open Go.RowKit

namespace Octet
theorem enc_byte : ∀ u, ∀ x ∈ enc u, 0 ≤ x ∧ x ≤ 255 := by
  intro u
  induction u using Nat.strongRecOn with
  | _ u ih =>
    intro x hx
    by_cases hu : u < 128
    · rw [enc_small hu] at hx
      simp at hx
      omega
    · rw [enc_big hu] at hx
      rcases List.mem_cons.1 hx with rfl | h
      · omega
      · exact ih (u / 128) (by omega) x h
theorem one_byte (n : Int) : ∀ x ∈ one n, 0 ≤ x ∧ x ≤ 255 := enc_byte _
theorem ones_byte (l : List Int) : ∀ x ∈ ones l, 0 ≤ x ∧ x ≤ 255 := by
  intro x hx
  unfold ones at hx
  obtain ⟨s, hs, hx⟩ := List.mem_flatten.1 hx
  obtain ⟨y, _, rfl⟩ := List.mem_map.1 hs
  exact one_byte y x hx
end Octet
theorem str_self (s : ByteArray) : (s == s) = true := by cases s; exact beq_self_eq_true (α := Array UInt8) _
theorem eqn_yes {w : World} {a b : Option Addr} {l : List Int} {c0 c1 : Nat} (h0 : NumsAt .i64 w a l) (h1 : NumsAt .i64 w b l) (hl : l.length ≤ 9223372036854775807) :
    Calls Try.prog 9 #[.slice a l.length c0, .slice b l.length c1] w fun e w' => e = .returned (.bool true) ∧ Quiet w w' := by
  have := eq_ints w a b l.length c0 l.length c1 l l h0 h1 rfl rfl hl hl
  rwa [decide_eq_true rfl] at this

set_option maxHeartbeats 2000000 in
theorem octetBack_walk (W : World) (n : Int) (hn : -9223372036854775808 ≤ n ∧ n ≤ 9223372036854775807) (v1 : Value) (l : List Int) (h1 : rSl 1 8 (rInt .i64) W [v1] l) (v2 : Value) (t : List Int) (h2 : rSl 1 1 (rInt .u8) W [v2] t) :
    Calls Try.prog 7 #[.int .i64 n, v1, v2] W fun e w' => e = .returned (.bool true) ∧ Below W.heap.size W w' := by
  obtain ⟨a1, k1, rfl, l1, lc1, i1, r1⟩ := NumsAt.of_rSl h1
  obtain ⟨a2, k2, rfl, l2, lc2, i2, r2⟩ := NumsAt.of_rSl h2
  clear h1 h2
  by_cases g0 : 60 < l.length
  · have g0' : (60 : Int) < (l.length : Int) := by omega
    go_enter Try.func7, Try.ntmps7
    go_wp2_with (go_at_call 10; refine (works_true _).mono ?_; rintro e w' ⟨rfl, hb⟩)
    go_ret
    exact ⟨rfl, by assumption⟩
  have g0' : decide ((60 : Int) < (l.length : Int)) = false := by simp; omega
  by_cases g1 : 100 < t.length
  · have g1' : (100 : Int) < (t.length : Int) := by omega
    go_enter Try.func7, Try.ntmps7
    go_wp2_with (go_at_call 10; refine (works_true _).mono ?_; rintro e w' ⟨rfl, hb⟩)
    go_ret
    exact ⟨rfl, by assumption⟩
  have g1' : decide ((100 : Int) < (t.length : Int)) = false := by simp; omega
  have hln : ∀ x ∈ l, -9223372036854775808 ≤ x ∧ x ≤ 9223372036854775807 := fun x hx => range_i64 (r1.out x hx)
  have st_size := str_size t
  have hb0 : ∀ x ∈ t, 0 ≤ x ∧ x ≤ 255 := fun x hx => range_u8 (r2.out x hx)
  have htx := txt_str hb0
  have o1 := Octet.one_len hn
  have o2 := Octet.one_len (n := (l.length : Int)) (by omega)
  have o3 := Octet.ones_len hln
  have o4 := Octet.one_len (n := (t.length : Int)) (by omega)
  obtain ⟨A1, hA1⟩ : ∃ A, A = [] ++ Octet.one n := ⟨_, rfl⟩
  obtain ⟨A2, hA2⟩ : ∃ A, A = A1 ++ Octet.one l.length ++ Octet.ones l := ⟨_, rfl⟩
  obtain ⟨A3, hA3⟩ : ∃ A, A = A2 ++ Octet.one t.length ++ t := ⟨_, rfl⟩
  obtain ⟨A4, hA4⟩ : ∃ A, A = A3 ++ t := ⟨_, rfl⟩
  have L1 : A1.length ≤ 10 := by rw [hA1]; simpa using o1
  have L2 : A2.length ≤ 630 := by rw [hA2, List.length_append, List.length_append]; omega
  have L3 : A3.length ≤ 800 := by rw [hA3, List.length_append, List.length_append]; omega
  have L4 : A4.length = A3.length + t.length := by rw [hA4, List.length_append]
  have x4 : ∀ x ∈ A4, 0 ≤ x ∧ x ≤ 255 := by
    intro x hx
    rw [hA4, hA3, hA2, hA1] at hx
    simp only [List.mem_append, List.not_mem_nil, false_or] at hx
    rcases hx with ((((h | h) | h) | h) | h) | h
    · exact Octet.one_byte _ _ h
    · exact Octet.one_byte _ _ h
    · exact Octet.ones_byte _ _ h
    · exact Octet.one_byte _ _ h
    · exact hb0 _ h
    · exact hb0 _ h
  have N1 : Octet.rNum A4 0 0 = (A1.length, 0, n) := by
    have := Octet.rNum_one hn [] (Octet.one l.length ++ Octet.ones l ++ Octet.one t.length ++ t ++ t)
    rw [hA4, hA3, hA2, hA1]
    simpa using this
  have N2 : Octet.rList A4 A1.length 0 = (A2.length, 0, l) := by
    have := Octet.rList_put hln (by omega) A1 (Octet.one t.length ++ t ++ t)
    rw [hA4, hA3, hA2]
    simpa [Nat.add_assoc] using this
  have N3 : Octet.rText A4 A2.length 0 = (A3.length, 0, t) := by
    have := Octet.rText_put t A2 t (by omega)
    rw [hA4, hA3]
    simpa [Nat.add_assoc] using this
  have C1 := Lib.hid (fun w' => onum_any w' none 0 0 [] (NumsAt.nil _ _ _) rfl (by omega) n hn)
  rw [← hA1] at C1
  have C2 := Lib.hid (fun w' a c h h' => olist_any w' a A1.length c A1 h rfl (by omega) a1 l.length k1 l h' rfl (by omega) r1)
  rw [← hA2] at C2
  have C3 := fun w' a c h => otext_any w' a A2.length c A2 h rfl (by omega) (strOfNums t) (by omega)
  rw [st_size, htx, ← hA3] at C3
  have C3 := Lib.hid C3
  have CV := Lib.hid (fun w' h => conv_run (P := Try.prog) (w := w') (src := 25) (dst := 9) (e := 5) (a := a2) (len := t.length) (cap := k2) (xs := t) Try.underlying25 Try.underlying5 Try.underlying9 h rfl)
  have D1 := fun w' g a c (h : RD w' g a c A4 0 0) => num_fn w' g a c A4 0 0 h
  rw [N1] at D1
  have D1 := Lib.hid D1
  have D2 := fun w' g a c (h : RD w' g a c A4 A1.length 0) => rdlist_any w' g a c A4 A1.length 0 h
  rw [N2] at D2
  have D2 := Lib.hid D2
  have D3 := fun w' g a c (h : RD w' g a c A4 A2.length 0) => text_any w' g a c A4 A2.length 0 h
  rw [N3] at D3
  have D3 := Lib.hid D3
  have HA4 := Lib.hid hA4
  have X4 := Lib.hid x4
  clear hA4 x4 N1 N2 N3 hA1 hA2 hA3 o1 o2 o3 o4 hb0 htx st_size hln
  go_enter Try.func7, Try.ntmps7
  go_wp2
  have cv0 := CV.out W.drew (i2.drewN 1)
  go_region_with (first
    | (go_at_call 13; refine (C1.out _).mono ?_; rintro e w1 ⟨b1, c1, rfl, ho1, hb1⟩; have h1 := NumsAt.of_owns ho1; have hb1 := btrans (bdrewN (Below.refl _ W) 1) hb1; have cv1 := CV.out _ (i2.below hb1))
    | (go_at_call 11; refine (C2.out _ _ _ h1 (i1.below hb1)).mono ?_; rintro e w2 ⟨b2, c2, rfl, h2, hb2, _⟩; have hb2 := btrans hb1 hb2; have cv2 := CV.out _ (i2.below hb2))
    | (go_at_call 16; refine (C3.out _ _ _ h2).mono ?_; rintro e w3 ⟨b3, c3, rfl, ho3, hb3⟩; have h3 := NumsAt.of_owns ho3; have hb3 := btrans hb2 hb3))
  all_goals (
    have hz3 := hb3.size
    go_wp2_with (at_builtin; refine wp_appS rfl _ _ 25 5 .u8 1 rfl Try.underlying25 Try.infoByte w3.heap.size _ 0 0 [] rfl (own_empty .u8 w3 5 0 w3.heap.size (Nat.le_refl _)) b3 A3.length c3 A3 rfl rfl (h3.alloc _) (by omega) (by omega) (by simp) ?_)
    intro b4 c4 w4 ho4 hg4
    have hb4 := bgrown (balloc (Below.refl _ _) _) hg4 (by intro k hk; simp [Value.ownBlock] at hk; omega)
    have hz4 := hb4.size
    have hb4W := btrans hb3 hb4
    go_wp2_with (at_builtin; refine wp_appS rfl _ _ 25 5 .u8 1 rfl Try.underlying25 Try.infoByte w3.heap.size b4 A3.length c4 A3 rfl ho4 a2 t.length k2 t rfl rfl (i2.below hb4W) (by omega) (by omega) (by omega) ?_)
    intro b5 c5 w5 ho5 hg5
    have hb5 := bgrown hb4 hg5 ho4.block
    have hb5W := btrans hb3 hb5
    have h5 := NumsAt.of_owns ho5
    have hc5 := ho5.caps.1
    rw [← HA4.out] at h5
    rw [← L4] at hc5
    clear hg4 hg5 ho4 ho5 hb4 hb5
    go_wp2_with fail
    refine (from_any w5 b5 (A3.length + t.length) c5 A4 h5 L4.symm (by omega)).mono ?_
    rintro e w6 ⟨g, b6, c6, rfl, hg6, h6, hne6, hR6, hb6, hc6⟩
    have hgW : W.heap.size ≤ g := by have := hb5W.size; omega
    have hb6W := btrans hb5W hb6
    have R6 : RD w6 g b6 c6 A4 0 0 := ⟨hR6, h6, fun ad h => (hne6.out ad h).2, Nat.zero_le _, hc6, by omega, X4.out⟩
    clear hR6 h6 hb6 hb5W
    go_wp2_with fail
    refine (D1.out _ _ _ _ R6).mono ?_
    rintro e w7 ⟨hg7, rfl, R7⟩
    have hb7 := rdr_grown hb6W hg7 hgW
    go_wp2_with fail
    refine (D2.out _ _ _ _ R7).mono ?_
    rintro e w8 ⟨hg8, ⟨b8, c8, rfl, h8, _, hne8⟩, R8⟩
    have hb8 := rdr_grown hb7 hg8 hgW
    have hg7g := R7.rdr.lt
    go_wp2_with fail
    refine (D3.out _ _ _ _ R8).mono ?_
    rintro e w9 ⟨hg9, rfl, R9⟩
    have hb9 := rdr_grown hb8 hg9 hgW
    have h9 := h8.grown hg9 (fun ad had => by have := hne8.out ad had; omega)
    have hnn : (n == n) = true := by simp
    go_wp2_with fail
    refine (eqn_yes h9 (i1.below hb9) (by omega)).mono ?_
    rintro e w10 ⟨rfl, m10, rfl⟩
    have R10 := R9.drewN m10
    have hb10 := bdrewN hb9 m10
    have cv10 := CV.out _ (i2.below hb10)
    have hst := str_self (strOfNums t)
    go_wp2_with fail
    refine (err_any _ g _ _ _ _ _ R10.rdr).mono ?_
    rintro e w11 ⟨rfl, rfl⟩
    have hll : (A4.length : Int) - (A3.length : Int) = (t.length : Int) := by omega
    go_wp2_with fail
    refine (Left_any _ g _ _ _ _ _ R10).mono ?_
    rintro e w12 ⟨rfl, m12, rfl⟩
    have hb12 := bdrewN hb9 (m10 + m12)
    go_wp2_with fail
    refine (works_true _).mono ?_
    rintro e w13 ⟨rfl, hb13⟩
    have hb13 := btrans hb12 hb13
    go_wp2
    go_ret
    exact ⟨rfl, hb13⟩)
end Go.Proofs.Ytpnkfhfaoomdpaa
