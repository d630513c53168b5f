/- The walks of the document's unsigned, One, Num and List. Conditions: numbers of Go's int, lengths within an append's bound. -/
import Derived.Test.YtpnkfhfaoomdpaaOctetWalks
import Derived.Test.YtpnkfhfaoomdpaaApp2
namespace Go.Proofs.Ytpnkfhfaoomdpaa
open Go.RowKit

theorem uns_any (w : World) (n : Int) (hn : -9223372036854775808 ≤ n ∧ n ≤ 9223372036854775807) :
    Calls Try.prog 39 #[.int .i64 n] w fun e w' => e = .returned (.int .u64 (Octet.zig n)) ∧ w = w' := by
  by_cases h0 : 0 ≤ n
  · have hz := Lib.hid (show (Octet.zig n : Int) = 2 * n by unfold Octet.zig; rw [if_pos h0]; omega)
    have e1 : IntKind.u64.wrap n = n := IntWalk.u64_in _ (by omega)
    have e2 : IntKind.u64.wrap (2 * n) = 2 * n := IntWalk.u64_in _ (by omega)
    go_enter Try.func39, Try.ntmps39
    go_wp2
    go_ret
    exact ⟨by rw [hz.out]; simp [e1, e2], rfl⟩
  · have hz := Lib.hid (show (Octet.zig n : Int) = -2 * n - 1 by unfold Octet.zig; rw [if_neg h0]; omega)
    have h0' : decide (0 ≤ n) = false := by simp; omega
    have e0 : IntKind.i64.wrap (-(n + 1)) = -(n + 1) := IntWalk.i64_in _ (by omega)
    have e1 : IntKind.u64.wrap (-(n + 1)) = -(n + 1) := IntWalk.u64_in _ (by omega)
    have e2 : IntKind.u64.wrap (2 * -(n + 1)) = 2 * -(n + 1) := IntWalk.u64_in _ (by omega)
    have e3 : IntKind.u64.wrap (2 * -(n + 1) + 1) = 2 * -(n + 1) + 1 := IntWalk.u64_in _ (by omega)
    go_enter Try.func39, Try.ntmps39
    go_wp2
    go_ret
    exact ⟨by rw [hz.out, show -2 * n - 1 = 2 * -(n + 1) + 1 by omega]; rfl, rfl⟩

set_option maxHeartbeats 1000000 in
theorem rone_any (w : World) (n : Int) (hn : -9223372036854775808 ≤ n ∧ n ≤ 9223372036854775807) :
    Calls Try.prog 30 #[.int .i64 n] w (OwnsBytes (Octet.one n) w) := by
  have C := Lib.hid (uns_any w n hn)
  have zl : Octet.zig n < 18446744073709551616 := Octet.zig_lt hn
  have hz2 : Hid (Octet.enc (Octet.zig n) = Octet.one n) := rfl
  have hl := Octet.one_len hn
  generalize Octet.zig n = z at C zl hz2
  go_enter Try.func30, Try.ntmps30
  go_wp2_with fail
  refine C.out.mono ?_
  rintro e w1 ⟨rfl, rfl⟩
  go_wp2
  go_loopw [3, 4] (fun uv ov wr => ∃ (u k : Nat) (a : Option Addr) (cap : Nat) (out : List Int), uv = .int .u64 u ∧ u < 18446744073709551616 ∧ ov = .slice a k cap ∧ OwnN .u8 wr w.heap.size 5 a k cap out ∧ Below w.heap.size w wr ∧ Hid (out ++ Octet.enc u = Octet.one n)) (fun uv _ _ => (intOf uv).toNat)
  case atStart => exact ⟨z, 0, none, 0, [], rfl, zl, rfl, OwnN.nil _ _ _ _, Below.refl _ _, by show _ = _; rw [hz2.out]; rfl⟩
  case round =>
    obtain ⟨u, k, a, cap, out, rfl, hu, rfl, ho, hb, hs⟩ := hrel
    have hsz := hb.size
    have hkl := owns_len ho
    have hsl := congrArg List.length hs.out
    simp only [List.length_append] at hsl
    have := Octet.enc_pos u
    by_cases hlt : u < 128
    · have hlt' : decide ((128 : Int) ≤ (u : Int)) = false := by simp; omega
      have e8 : IntKind.u8.wrap (u : Int) = (u : Int) := IntWalk.u8_in _ (by omega)
      go_wp2_with (at_builtin; refine wp_app1 rfl _ _ 25 5 .u8 1 rfl Try.underlying25 Try.infoByte w.heap.size a k cap out rfl (ho.alloc _) wr.heap.size 1 (u : Int) rfl (new_cell1 _ _ _) (by omega) (by omega) (by simp; omega) ?_)
      intro a' cap' w2 ho2 hg
      have hb2 := bgrown (balloc hb _) hg ho.block
      go_wp2
      go_ret
      exact owns_own ho2 (by rw [← hs.out, Octet.enc_small hlt]) hb2
    · have hge : (128 : Int) ≤ (u : Int) := by omega
      have e8 : IntKind.u8.wrap ((u : Int) % 128 + 128) = (u : Int) % 128 + 128 := IntWalk.u8_in _ (by omega)
      have et : (u : Int).tmod 128 = (u : Int) % 128 := Int.tmod_eq_emod_of_nonneg (by omega)
      have ed : (u : Int).tdiv 128 = (u : Int) / 128 := Int.tdiv_eq_ediv_of_nonneg (by omega)
      have eb3 := Lib.hid (show (u : Int) % 128 + 128 = ((u % 128 + 128 : Nat) : Int) by omega)
      go_wp2_with (at_builtin; refine wp_app1 rfl _ _ 25 5 .u8 1 rfl Try.underlying25 Try.infoByte w.heap.size a k cap out rfl (ho.alloc _) wr.heap.size 1 ((u : Int) % 128 + 128) rfl (new_cell1 _ _ _) (by omega) (by omega) (by simp; omega) ?_)
      intro a' cap' w2 ho2 hg
      have hb2 := bgrown (balloc hb _) hg ho.block
      clear hg ho
      go_wp2
      go_roundw
      case rel => exact ⟨u / 128, k + 1, a', cap', _, by go_num, by omega, rfl, ho2, hb2, by show _ = _; rw [List.append_assoc, ← hs.out, Octet.enc_big hlt, eb3.out]; rfl⟩
      case measure => simp [intOf]; omega

set_option maxHeartbeats 1000000 in
theorem rnum_any (w : World) (a1 : Option Addr) (n1 c1 : Nat) (bs : List Int) (h1 : NumsAt .u8 w a1 bs) (hn1 : n1 = bs.length) (b1 : n1 ≤ 100000000) (n : Int) (hn : -9223372036854775808 ≤ n ∧ n ≤ 9223372036854775807) :
    Calls Try.prog 14 #[.slice a1 n1 c1, .int .i64 n] w (OwnsBytes (bs ++ Octet.one n) w) := by
  subst hn1
  have C := Lib.hid (fun w => rone_any w n hn)
  have hl := Octet.one_len hn
  go_enter Try.func14, Try.ntmps14
  go_wp2_with (at_builtin; refine wp_appS rfl _ _ 25 5 .u8 1 rfl Try.underlying25 Try.infoByte w.heap.size _ 0 0 [] rfl (own_empty .u8 w 5 0 w.heap.size (Nat.le_refl _)) a1 bs.length c1 bs rfl rfl (h1.alloc _) (by omega) (by omega) (by simp) ?_)
  intro a' cap' w1 ho hg
  have hb := bgrown (balloc (Below.refl _ _) _) hg (by intro k hk; simp [Value.ownBlock] at hk; omega)
  clear hg h1
  have hsz := hb.size
  go_wp2_with fail
  refine (C.out _).mono ?_
  rintro e w2 ⟨a2, c2, rfl, ho2, hb2⟩
  have hN2 := NumsAt.of_owns ho2
  have ho := ho.below' hb2
  have hb2 := btrans hb hb2
  have hsz2 := hb2.size
  clear ho2 hb
  go_wp2_with (at_builtin; refine wp_appS rfl _ _ 25 5 .u8 1 rfl Try.underlying25 Try.infoByte w.heap.size a' bs.length cap' bs rfl ho a2 (Octet.one n).length c2 (Octet.one n) rfl rfl hN2 (by omega) (by omega) (by omega) ?_)
  intro a3 cap3 w3 ho3 hg
  have hb3 := bgrown hb2 hg ho.block
  go_wp2
  go_ret
  exact owns_own ho3 rfl hb3

set_option maxHeartbeats 1000000 in
theorem rlist_any (w : World) (a1 : Option Addr) (n1 c1 : Nat) (bs : List Int) (h1 : NumsAt .u8 w a1 bs) (hn1 : n1 = bs.length) (b1 : n1 ≤ 400) (a2 : Option Addr) (n2 c2 : Nat) (l : List Int) (h2 : NumsAt .i64 w a2 l) (hn2 : n2 = l.length) (b2 : n2 ≤ 100) (hl : Hid (∀ x ∈ l, (Lit.int .i64 x).wf = true)) :
    Calls Try.prog 15 #[.slice a1 n1 c1, .slice a2 n2 c2] w (GivesBytes (bs ++ Octet.one l.length ++ Octet.ones l) w) := by
  subst hn1 hn2
  have C := Lib.hid (rnum_any w a1 bs.length c1 bs h1 rfl (by omega) (l.length : Int) (by omega))
  have hone := Octet.one_len (n := (l.length : Int)) (by omega)
  clear h1
  go_enter Try.func15, Try.ntmps15
  go_wp2_with fail
  refine C.out.mono ?_
  rintro e w1 ⟨a, cap, rfl, ho, hb⟩
  rw [List.length_append] at ho
  go_wp2
  go_loopw [5, 6] (fun ov iv wr => ∃ (k : Nat) (a : Option Addr) (cap m : Nat) (out : List Int), k ≤ l.length ∧ ov = .slice a m cap ∧ iv = .int .i64 k ∧ OwnN .u8 wr w.heap.size 5 a m cap out ∧ Below w.heap.size w wr ∧ m ≤ bs.length + 10 + 10 * k ∧ Hid (out = bs ++ Octet.one l.length ++ Octet.ones (l.take k))) (fun _ iv _ => l.length - (intOf iv).toNat)
  case atStart => exact ⟨0, a, cap, _, _, by omega, rfl, rfl, ho, hb, by omega, by simp [Hid, Octet.ones]⟩
  case round =>
    obtain ⟨k, a, cap, m, out, hk, rfl, rfl, ho, hb, hol, hs⟩ := hrel
    have hsz := hb.size
    by_cases hlt : k < l.length
    · obtain ⟨b, off, x, rfl, cx, hx⟩ := (h2.below hb).at k hlt
      have hxr := range_i64 (hl.out x (by rw [hx.out, List.getD_eq_getElem?_getD, List.getElem?_eq_getElem hlt]; exact List.getElem_mem hlt))
      have C2 := Lib.hid (rone_any wr x hxr)
      have hone := Octet.one_len hxr
      go_wp2_with fail
      refine C2.out.mono ?_
      rintro e w2 ⟨a', cap', rfl, ho2, hb2⟩
      have hN2 := NumsAt.of_owns ho2
      have ho := ho.below' hb2
      have hb2 := btrans hb hb2
      have hsz2 := hb2.size
      clear ho2 hb
      go_wp2_with (at_builtin; refine wp_appS rfl _ _ 25 5 .u8 1 rfl Try.underlying25 Try.infoByte w.heap.size a m cap out rfl ho a' (Octet.one x).length cap' (Octet.one x) rfl rfl hN2 (by omega) (by omega) (by omega) ?_)
      intro a3 cap3 w3 ho3 hg
      have hb3 := bgrown hb2 hg ho.block
      go_wp2
      go_roundw
      case rel => exact ⟨k + 1, a3, cap3, _, _, by omega, rfl, by go_num, ho3, hb3, by omega, by show _ = _; rw [hs.out, List.take_add_one, List.getElem?_eq_getElem hlt, Option.toList_some, Octet.ones_snoc, List.append_assoc, hx.out, List.getD_eq_getElem?_getD, List.getElem?_eq_getElem hlt]; rfl⟩
      case measure => simp [intOf]; omega
    · obtain rfl : k = l.length := by omega
      go_wp2
      go_ret
      have e := hs.out
      rw [List.take_length] at e
      have := owns_len ho
      subst this
      exact bytes_own ho e hb
end Go.Proofs.Ytpnkfhfaoomdpaa
