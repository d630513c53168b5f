/- The walks of layer octet's and the document's Text. Conditions: lengths within an append's bound. -/
import Derived.Test.YtpnkfhfaoomdpaaOctetWalks2
import Derived.Test.YtpnkfhfaoomdpaaConv
namespace Go.Proofs.Ytpnkfhfaoomdpaa
open Go.RowKit

set_option maxHeartbeats 1000000 in
theorem otext_any (w : World) (a1 : Option Addr) (n1 c1 : Nat) (bs : List Int) (h1 : NumsAt .u8 w a1 bs) (hn1 : n1 = bs.length) (b1 : n1 ≤ 10000) (st : ByteArray) (b2 : st.size ≤ 10000) :
    Calls Try.prog 16 #[.slice a1 n1 c1, .string st] w (OwnsBytes (bs ++ Octet.one st.size ++ txt st) w) := by
  subst hn1
  have C := Lib.hid (onum_any w a1 bs.length c1 bs h1 rfl (by omega) (st.size : Int) (by omega))
  have hone := Octet.one_len (n := (st.size : Int)) (by omega)
  clear h1
  go_enter Try.func16, Try.ntmps16
  go_wp2_with fail
  refine C.out.mono ?_
  rintro e w1 ⟨a, cap, rfl, ho, hb⟩
  have hsz := hb.size
  rw [List.length_append] at ho
  go_wp2_with (at_builtin; refine wp_appT rfl _ _ 25 9 5 rfl Try.underlying25 Try.underlying9 Try.infoByte w.heap.size a _ cap _ rfl ho st rfl (by omega) (by omega) ?_)
  intro a3 cap3 w3 ho3 hg
  have hb3 := bgrown hb hg ho.block
  go_wp2
  go_ret
  exact owns_own ho3 (by rw [List.append_assoc]) hb3

set_option maxHeartbeats 1000000 in
theorem rtext_any (w : World) (a1 : Option Addr) (n1 c1 : Nat) (bs : List Int) (h1 : NumsAt .u8 w a1 bs) (hn1 : n1 = bs.length) (b1 : n1 ≤ 10000) (st : ByteArray) (b2 : st.size ≤ 10000) :
    Calls Try.prog 17 #[.slice a1 n1 c1, .string st] w (OwnsBytes (bs ++ Octet.one st.size ++ txt st) w) := by
  subst hn1
  have C := Lib.hid (rnum_any w a1 bs.length c1 bs h1 rfl (by omega) (st.size : Int) (by omega))
  have hone := Octet.one_len (n := (st.size : Int)) (by omega)
  clear h1
  go_enter Try.func17, Try.ntmps17
  go_wp2_with fail
  refine C.out.mono ?_
  rintro e w1 ⟨a, cap, rfl, ho, hb⟩
  have hsz := hb.size
  rw [List.length_append] at ho
  have hcv := fun w => Lib.run_convert_string_bytes (P := Try.prog) w 9 25 5 st Try.underlying9 Try.underlying25 Try.underlying5
  have hbc := conv_below w1 5 st
  have hN := conv_nums w1 5 st
  have ho := ho.below' hbc
  have hb := btrans hb hbc
  have hsz2 := hb.size
  have htl := txt_len st
  clear hbc
  go_wp2_with (at_builtin; refine wp_appS rfl _ _ 25 5 .u8 1 rfl Try.underlying25 Try.infoByte w.heap.size a _ cap _ rfl ho _ st.size _ (txt st) rfl htl.symm hN (by omega) (by omega) (by omega) ?_)
  intro a3 cap3 w3 ho3 hg
  have hb3 := bgrown hb hg ho.block
  go_wp2
  go_ret
  exact owns_own ho3 (by rw [List.append_assoc]) hb3
end Go.Proofs.Ytpnkfhfaoomdpaa
