/- The document's Same, of automata that are the same. Conditions: the bounds that an argument brings along. -/
import Derived.Test.YtefplklkhcpchaaDegLives
namespace Go.Proofs.Ytefplklkhcpchaa
open Go.RowKit

theorem ints_yes (w : World) (a b : Option Addr) (c d : Nat) (xs : List Int) (h1 : NumsAt .i64 w a xs) (h2 : NumsAt .i64 w b xs) (hl : xs.length ≤ 9223372036854775807) :
    Calls Try.prog 21 #[.slice a xs.length c, .slice b xs.length d] w fun e w' => e = .returned (.bool true) ∧ Quiet w w' := by
  go_enter Try.func21, Try.ntmps21
  go_wp2
  go_loopw [5] (fun i wr => ∃ k m : Nat, k ≤ xs.length ∧ i = .int .i64 k ∧ wr = w.drewN m) (fun i _ => xs.length - (intOf i).toNat)
  case atStart => exact ⟨0, 0, Nat.zero_le _, rfl, rfl⟩
  case round =>
    obtain ⟨k, m, hk, rfl, rfl⟩ := hrel
    by_cases hlt : k < xs.length
    · obtain ⟨b1, o1, x, rfl, c1, hx⟩ := h1.at k hlt
      obtain ⟨b2, o2, y, rfl, c2, hy⟩ := h2.at k hlt
      have hxy : x = y := by rw [hx.out, hy.out]
      subst hxy
      have hxx : (x != x) = false := by simp
      have hki : (k : Int) < (xs.length : Int) := by omega
      clear hx hy
      go_wp2
      go_quiet (fail)
      go_wp2
      go_roundw
      case rel => exact ⟨k + 1, _, by omega, by go_num, by first | rfl | exact World.drewN_drewN _ _ _⟩
      case measure => simp [intOf]; omega
    · obtain rfl : k = xs.length := by omega
      go_wp2
      go_ret
      exact ⟨rfl, Quiet.one _ _⟩

set_option maxHeartbeats 4000000 in
theorem same_yes (w : World) (ai an bi bn : Option Addr) (ci cn di dn : Nat) (A : AU) (h1 : AuAt w ai A.init.length an A.nodes.length A) (h2 : AuAt w bi A.init.length bn A.nodes.length A) (hi : A.init.length ≤ 1000000000) (hto : ∀ x ∈ A.nodes, x.to.length ≤ 1000000000) (hnl : A.nodes.length ≤ 1000000000) :
    Calls Try.prog 12 #[.agg #[.int .i64 A.sets, .slice ai A.init.length ci, .slice an A.nodes.length cn], .agg #[.int .i64 A.sets, .slice bi A.init.length di, .slice bn A.nodes.length dn]] w fun e w' => e = .returned (.bool true) ∧ Below w.heap.size w w' := by
  obtain ⟨s, init, nodes⟩ := A
  have n1 := h1.nodes
  have n2 := h2.nodes
  have i1 := h1.init
  have i2 := h2.init
  simp only at n1 n2 i1 i2 hi hto hnl ⊢
  have hb0 : Below w.heap.size w ((w.alloc (.cells #[.int .i64 s, .slice ai init.length ci, .slice an nodes.length cn] AUT)).alloc (.cells #[.int .i64 s, .slice bi init.length di, .slice bn nodes.length dn] AUT)) := balloc (balloc (Below.refl _ _) _) _
  have rA := (RowAt.new (w := w) (T := AUT) #[.int .i64 s, .slice ai init.length ci, .slice an nodes.length cn] rfl).alloc (.cells #[.int .i64 s, .slice bi init.length di, .slice bn nodes.length dn] AUT)
  have rB := RowAt.new (w := w.alloc (.cells #[.int .i64 s, .slice ai init.length ci, .slice an nodes.length cn] AUT)) (T := AUT) (n := w.heap.size + 1) #[.int .i64 s, .slice bi init.length di, .slice bn nodes.length dn] (by simp)
  have II := Lib.hid (ints_yes _ ai bi ci di init (i1.below hb0) (i2.below hb0) (by omega))
  have hss : (s != s) = false := by simp
  have hnn : ((nodes.length : Int) != (nodes.length : Int)) = false := by simp
  replace rA := Lib.hid rA
  replace rB := Lib.hid rB
  replace hb0 := Lib.hid hb0
  replace n1 := Lib.hid n1
  replace n2 := Lib.hid n2
  replace hto := Lib.hid hto
  clear h1 h2 i1 i2
  go_enter Try.func12, Try.ntmps12
  go_wp2_with fail
  refine II.out.mono ?_
  rintro e w1 ⟨rfl, m1, rfl⟩
  have sA := rA.out.drewN m1
  have sB := rB.out.drewN m1
  have hb1 := bdrewN hb0.out m1
  clear II
  go_wp2
  generalize ((w.alloc (.cells #[.int .i64 s, .slice ai init.length ci, .slice an nodes.length cn] AUT)).alloc (.cells #[.int .i64 s, .slice bi init.length di, .slice bn nodes.length dn] AUT)).drewN m1 = w1 at sA sB hb1 ⊢
  go_loopw [5] (fun iv wr => ∃ k : Nat, k ≤ nodes.length ∧ iv = .int .i64 k ∧ RowAt wr w.heap.size AUT [.int .i64 s, .slice ai init.length ci, .slice an nodes.length cn] ∧ RowAt wr (w.heap.size + 1) AUT [.int .i64 s, .slice bi init.length di, .slice bn nodes.length dn] ∧ Below w.heap.size w wr) (fun iv _ => nodes.length - (intOf iv).toNat)
  case atStart => exact ⟨0, Nat.zero_le _, rfl, sA, sB, hb1⟩
  case round =>
    obtain ⟨k, hk, rfl, tA, tB, hb⟩ := hrel
    clear sA sB hb1
    have a2 : wr.cell? ⟨w.heap.size, 2, none⟩ = some (.slice an nodes.length cn) := tA.cell 2
    have b2 : wr.cell? ⟨w.heap.size + 1, 2, none⟩ = some (.slice bn nodes.length dn) := tB.cell 2
    have hla := tA.lt
    have hlb := tB.lt
    by_cases hlt : k < nodes.length
    · obtain ⟨bb, of1, hab, p0, p1, p2, at1, ct1, p3, ht1⟩ := (n1.out.below hb).at k hlt
      obtain ⟨bd, of2, hbb, q0, q1, q2, at2, ct2, q3, ht2⟩ := (n2.out.below hb).at k hlt
      have hx := hto.out _ (List.getElem_mem hlt)
      generalize nodes[k] = x at p0 p1 p2 p3 ht1 q0 q1 q2 q3 ht2 hx
      obtain ⟨xn, xb, xi, xt⟩ := x
      simp only at p0 p1 p2 p3 ht1 q0 q1 q2 q3 ht2 hx
      have hl1 := World.block_lt_of_cell? wr _ p0
      have hl2 := World.block_lt_of_cell? wr _ q0
      simp only at hl1 hl2
      have IT := Lib.hid (fun w' (hb' : Below wr.heap.size wr w') => ints_yes w' at1 at2 ct1 ct2 xt (ht1.below hb') (ht2.below hb') (by omega))
      have hki : (k : Int) < (nodes.length : Int) := by omega
      have hxn : ((xn : Int) != (xn : Int)) = false := by simp
      have hxb : ((xb : Int) != (xb : Int)) = false := by simp
      have hxi : ((xi : Int) != (xi : Int)) = false := by simp
      subst hab hbb
      clear ht1 ht2
      go_wp2
      go_region
      all_goals (
        go_wp2_with fail
        refine (IT.out _ (balloc (balloc (Below.refl wr.heap.size wr) _) _).drew).mono ?_
        rintro e w3 ⟨rfl, m3, rfl⟩
        have hbn := bdrewN (balloc (balloc (Below.refl wr.heap.size wr) (.cells #[.int .u64 xn, .int .u64 xb, .int .u64 xi, .slice at1 xt.length ct1] TN)) (.cells #[.int .u64 xn, .int .u64 xb, .int .u64 xi, .slice at2 xt.length ct2] TN)) (1 + m3)
        have hbm := bdrewN (balloc (balloc (Below.refl wr.heap.size wr) (.cells #[.int .u64 xn, .int .u64 xb, .int .u64 xi, .slice at2 xt.length ct2] TN)) (.cells #[.int .u64 xn, .int .u64 xb, .int .u64 xi, .slice at1 xt.length ct1] TN)) (1 + m3)
        replace hbn := Lib.hid hbn
        replace hbm := Lib.hid hbm
        go_wp2
        go_roundw
        case rel => first | exact ⟨k + 1, by omega, by go_num, tA.below hbn.out, tB.below hbn.out, btrans hb hbn.out⟩ | exact ⟨k + 1, by omega, by go_num, tA.below hbm.out, tB.below hbm.out, btrans hb hbm.out⟩
        case measure => simp [intOf]; omega)
    · obtain rfl : k = nodes.length := by omega
      go_wp2
      go_ret
      exact ⟨rfl, hb⟩
end Go.Proofs.Ytefplklkhcpchaa
