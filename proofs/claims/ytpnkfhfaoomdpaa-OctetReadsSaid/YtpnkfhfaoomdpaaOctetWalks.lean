/- The walks of layer octet's Num and the document's One and Num. Conditions: numbers of Go's int, lengths within an append's bound. -/
import Derived.Test.YtpnkfhfaoomdpaaOctetBits
import Derived.Test.YtpnkfhfaoomdpaaCloneBytes
import Derived.Test.YtpnkfhfaoomdpaaApp
namespace Go.Proofs.Ytpnkfhfaoomdpaa
open Go.RowKit

set_option maxHeartbeats 1000000 in
theorem onum_any (w : World) (a1 : Option Addr) (n1 c1 : Nat) (bs : List Int) (h1 : NumsAt .u8 w a1 bs) (hn1 : n1 = bs.length) (b1 : n1 ≤ 100000000) (n : Int) (hn : -9223372036854775808 ≤ n ∧ n ≤ 9223372036854775807) :
    Calls Try.prog 13 #[.slice a1 n1 c1, .int .i64 n] w (OwnsBytes (bs ++ Octet.one n) w) := by
  subst hn1
  have C := Lib.hid (clone_bytes w a1 bs.length c1 bs h1 rfl (by omega))
  obtain ⟨z, hz⟩ : ∃ z, z = Octet.zig n := ⟨_, rfl⟩
  have zb : bits .xor .u64 (IntKind.u64.wrap (IntKind.u64.wrap n * 2)) (IntKind.u64.wrap (n / 9223372036854775808)) = (z : Int) := by rw [hz]; exact Octet.zig_bits hn
  have zl : z < 18446744073709551616 := by rw [hz]; exact Octet.zig_lt hn
  have hz2 : Hid (Octet.enc z = Octet.one n) := by rw [hz]; rfl
  have hl := Octet.one_len hn
  clear hz h1
  go_enter Try.func13, Try.ntmps13
  go_wp2_with fail
  refine C.out.mono ?_
  rintro e w1 ⟨a, cap, rfl, ho, hb⟩
  clear zb
  go_wp2
  go_loopw [5, 6] (fun uv ov wr => ∃ (u k : Nat) (a : Option Addr) (cap : Nat) (out : List Int), uv = .int .u64 u ∧ u < 18446744073709551616 ∧ ov = .slice a k cap ∧ OwnN .u8 wr w.heap.size 5 a k cap out ∧ Below w.heap.size w wr ∧ Hid (out ++ Octet.enc u = bs ++ Octet.one n)) (fun uv _ _ => (intOf uv).toNat)
  case atStart => exact ⟨z, _, a, cap, bs, rfl, zl, rfl, ho, hb, by show _ = _; rw [hz2.out]⟩
  case round =>
    obtain ⟨u, k, a, cap, out, rfl, hu, rfl, ho, hb, hs⟩ := hrel
    have hsz := hb.size
    have hkl := owns_len ho
    have hsl := congrArg List.length hs.out
    simp only [List.length_append] at hsl
    have := Octet.enc_pos u
    by_cases hlt : u < 128
    · have hlt' : decide ((128 : Int) ≤ (u : Int)) = false := by simp; omega
      have e8 : IntKind.u8.wrap (u : Int) = (u : Int) := IntWalk.u8_in _ (by omega)
      go_wp2_with (at_builtin; refine wp_app1 rfl _ _ 25 5 .u8 1 rfl Try.underlying25 Try.infoByte w.heap.size a k cap out rfl (ho.alloc _) wr.heap.size 1 (u : Int) rfl (new_cell1 _ _ _) (by omega) (by omega) (by simp; omega) ?_)
      intro a' cap' w2 ho2 hg
      have hb2 := bgrown (balloc hb _) hg ho.block
      go_wp2
      go_ret
      exact owns_own ho2 (by rw [← hs.out, Octet.enc_small hlt]) hb2
    · have hge : (128 : Int) ≤ (u : Int) := by omega
      have eb : bits .or .u8 ((u : Int) % 256) 128 = (u : Int) % 128 + 128 := by rw [← IntKind.wrap_u8, Octet.more_bits]; omega
      have eb2 : (u : Int) % 128 + 128 = ((u % 128 + 128 : Nat) : Int) := by omega
      have eb3 := Lib.hid eb2
      clear eb2
      go_wp2_with (at_builtin; refine wp_app1 rfl _ _ 25 5 .u8 1 rfl Try.underlying25 Try.infoByte w.heap.size a k cap out rfl (ho.alloc _) wr.heap.size 1 ((u : Int) % 128 + 128) rfl (new_cell1 _ _ _) (by omega) (by omega) (by simp; omega) ?_)
      intro a' cap' w2 ho2 hg
      have hb2 := bgrown (balloc hb _) hg ho.block
      clear hg ho
      go_wp2
      go_roundw
      case rel => exact ⟨u / 128, k + 1, a', cap', _, by go_num, by omega, rfl, ho2, hb2, by show _ = _; rw [List.append_assoc, ← hs.out, Octet.enc_big hlt, eb3.out]; rfl⟩
      case measure => simp [intOf]; omega

theorem olist_any (w : World) (a1 : Option Addr) (n1 c1 : Nat) (bs : List Int) (h1 : NumsAt .u8 w a1 bs) (hn1 : n1 = bs.length) (b1 : n1 ≤ 400) (a2 : Option Addr) (n2 c2 : Nat) (l : List Int) (h2 : NumsAt .i64 w a2 l) (hn2 : n2 = l.length) (b2 : n2 ≤ 1000) (hl : Hid (∀ x ∈ l, (Lit.int .i64 x).wf = true)) :
    Calls Try.prog 11 #[.slice a1 n1 c1, .slice a2 n2 c2] w (GivesBytes (bs ++ Octet.one l.length ++ Octet.ones l) w) := by
  subst hn1 hn2
  have C := Lib.hid (onum_any w a1 bs.length c1 bs h1 rfl (by omega) (l.length : Int) (by omega))
  have hone := Octet.one_len (n := (l.length : Int)) (by omega)
  clear h1
  go_enter Try.func11, Try.ntmps11
  go_wp2_with fail
  refine C.out.mono ?_
  rintro e w1 ⟨a, cap, rfl, ho, hb⟩
  have hN := NumsAt.of_owns ho
  have hc := ho.caps.1
  clear ho
  go_wp2
  go_loopw [5, 14] (fun ov iv wr => ∃ (k : Nat) (a : Option Addr) (cap : Nat) (out : List Int), k ≤ l.length ∧ ov = .slice a out.length cap ∧ iv = .int .i64 k ∧ NumsAt .u8 wr a out ∧ Below w.heap.size w wr ∧ out.length ≤ cap ∧ out.length ≤ bs.length + 10 + 10 * k ∧ Hid (out = bs ++ Octet.one l.length ++ Octet.ones (l.take k))) (fun _ iv _ => l.length - (intOf iv).toNat)
  case atStart => exact ⟨0, a, cap, _, by omega, by simp, rfl, hN, hb, hc, by simp; omega, by simp [Hid, Octet.ones]⟩
  case round =>
    obtain ⟨k, a, cap, out, hk, rfl, rfl, hN, hb, hc, hol, hs⟩ := hrel
    by_cases hlt : k < l.length
    · obtain ⟨b, off, x, rfl, cx, hx⟩ := (h2.below hb).at k hlt
      have hxr := range_i64 (hl.out x (by rw [hx.out, List.getD_eq_getElem?_getD, List.getElem?_eq_getElem hlt]; exact List.getElem_mem hlt))
      have C2 := Lib.hid (onum_any wr a out.length cap out hN rfl (by omega) x hxr)
      have hone := Octet.one_len hxr
      go_wp2_with fail
      refine C2.out.mono ?_
      rintro e w2 ⟨a', cap', rfl, ho2, hb2⟩
      have hN2 := NumsAt.of_owns ho2
      have hc2 := ho2.caps.1
      have hb2 := btrans hb hb2
      clear ho2
      go_wp2
      go_roundw
      case rel => exact ⟨k + 1, a', cap', _, by omega, by simp, by go_num, hN2, hb2, hc2, by simp at hone ⊢; omega, by show _ = _; rw [hs.out, List.take_add_one, List.getElem?_eq_getElem hlt, Option.toList_some, Octet.ones_snoc, List.append_assoc, hx.out, List.getD_eq_getElem?_getD, List.getElem?_eq_getElem hlt]; rfl⟩
      case measure => simp [intOf]; omega
    · obtain rfl : k = l.length := by omega
      go_wp2
      go_ret
      have e := hs.out
      rw [List.take_length] at e
      rw [← e]
      exact ⟨a, cap, rfl, hN, hb, hc⟩
end Go.Proofs.Ytpnkfhfaoomdpaa
