/- Words in memory; how long a word is, what stands where, whether it is one; whether a node reads. Conditions: the bounds of a short word. -/
import Derived.Test.YtnllgigolfakpaaGrAll
import Derived.Test.YtnllgigolfakpaaTakesL
import Derived.Laws.BitsLemmas
import Derived.Laws.Bits64
import Derived.Laws.Bits64b
import Derived.Laws.BitsAllLaws
namespace Go.Proofs.Ytnllgigolfakpaa
open Go.RowKit Go.ChangeShapes Go.WideShapes Go.ChangeAt

abbrev TWd : Nat := 37
structure WordAt (W : World) (as_ al : Option Addr) (w : WD) : Prop where
  stem : NumsAt .u64 W as_ (ints w.stem)
  loop : NumsAt .u64 W al (ints w.loop)
theorem WordAt.below {W W' : World} {as_ al : Option Addr} {w : WD} (h : WordAt W as_ al w) (hb : Below W.heap.size W W') : WordAt W' as_ al w := ⟨h.stem.below hb, h.loop.below hb⟩
structure WordOk (w : WD) : Prop where
  len : w.len ≤ 40
  stem : ∀ u ∈ w.stem, u < 18446744073709551616
  loop : ∀ u ∈ w.loop, u < 18446744073709551616
abbrev WV (as_ : Option Addr) (n cs : Nat) (al : Option Addr) (m cl : Nat) : Value := .agg #[.slice as_ n cs, .slice al m cl]
abbrev WC (as_ : Option Addr) (n cs : Nat) (al : Option Addr) (m cl : Nat) : List Value := [.slice as_ n cs, .slice al m cl]
/-- how a word's cells read -/
def rWD : Rd WD := fun W cs w => ∃ v1 v2, cs = [v1, v2] ∧ rSl 1 8 (rInt .u64) W [v1] (ints w.stem) ∧ rSl 1 8 (rInt .u64) W [v2] (ints w.loop)
theorem list2 {α : Type} {l : List α} (h : l.length = 2) : ∃ a b, l = [a, b] := by
  match l, h with
  | [a, b], _ => exact ⟨a, b, rfl⟩
theorem opens_u64s : Opens Try.prog 35 (rSl 1 8 (rInt .u64)) := opens_slice Try.underlying35 (by kernel_rfl) (by kernel_rfl) (by decide) (opens_int Try.underlying41)
theorem nats_of {W : World} {v : Value} {xs : List Int} (h : rSl 1 8 (rInt .u64) W [v] xs) : ∃ l : List Nat, xs = ints l := by
  obtain ⟨a, cap, _, _, _, _, hw⟩ := NumsAt.of_rSl h
  refine ⟨xs.map Int.toNat, ?_⟩
  apply List.ext_getElem
  · simp [ints]
  · intro i h1 h2
    have := range_u64 (hw.out _ (List.getElem_mem h1))
    simp [ints]
    omega
theorem opens_WD : Opens Try.prog TWd rWD := by
  intro H enc w fuel cs d ps hd hw
  have hlen := trod_struct_len Try.underlying37 hd
  rw [show Try.prog.cellsOf TWd = 2 from by kernel_rfl] at hlen
  obtain ⟨c0, c1, rfl⟩ := list2 hlen
  obtain ⟨x0, r0⟩ := opens_field Try.underlying37 0 0 1 _ rfl rfl (by kernel_rfl) opens_u64s hd hw
  obtain ⟨x1, r1⟩ := opens_field Try.underlying37 1 1 1 _ rfl rfl (by kernel_rfl) opens_u64s hd hw
  simp only [List.drop_zero, List.drop_succ_cons, List.take_succ_cons, List.take_zero] at r0 r1
  obtain ⟨l0, rfl⟩ := nats_of r0
  obtain ⟨l1, rfl⟩ := nats_of r1
  exact ⟨⟨l0, l1⟩, c0, c1, rfl, r0, r1⟩
theorem WordAt.of_rWD {W : World} {cs : List Value} {w : WD} (h : rWD W cs w) : ∃ as_ n1 al n2, cs = WC as_ w.stem.length n1 al w.loop.length n2 ∧ WordAt W as_ al w ∧ (∀ u ∈ w.stem, u < 18446744073709551616) ∧ (∀ u ∈ w.loop, u < 18446744073709551616) ∧ w.stem.length ≤ 17592186043904 ∧ w.loop.length ≤ 17592186043904 := by
  obtain ⟨v1, v2, rfl, h1, h2⟩ := h
  obtain ⟨a1, c1, rfl, l1, _, n1, w1⟩ := NumsAt.of_rSl h1
  obtain ⟨a2, c2, rfl, l2, _, n2, w2⟩ := NumsAt.of_rSl h2
  rw [ints_len] at l1 l2
  refine ⟨a1, c1, a2, c2, by rw [ints_len, ints_len], ⟨n1, n2⟩, fun u hu => ?_, fun u hu => ?_, by omega, by omega⟩
  · have := range_u64 (w1.out (u : Int) (List.mem_map.2 ⟨u, hu, rfl⟩))
    omega
  · have := range_u64 (w2.out (u : Int) (List.mem_map.2 ⟨u, hu, rfl⟩))
    omega

/-! what is asked of a word -/
theorem wchk_any (W : World) (as_ al : Option Addr) (n cs m cl : Nat) (hnm : n + m ≤ 40) :
    Calls Try.prog 16 #[WV as_ n cs al m cl] W fun e w' => e = .returned (.int .i64 (if m = 0 then 8 else 0)) ∧ Below W.heap.size W w' := by
  obtain ⟨r, hr⟩ : ∃ r : Int, r = if m = 0 then 8 else 0 := ⟨_, rfl⟩
  rw [← hr]
  have h1 : (n : Int) + (m : Int) ≤ 40 := by omega
  have h2 : decide (65536 < (n : Int) + (m : Int)) = false := by simp; omega
  have hn0 : 0 ≤ (n : Int) := by omega
  have hm0 : 0 ≤ (m : Int) := by omega
  by_cases hm : m = 0
  · have hb : ((m : Int) == 0) = true := by simp; omega
    rw [if_pos hm] at hr
    subst hr
    clear hm hnm
    go_enter Try.func16, Try.ntmps16
    go_wp2
    go_ret
    exact ⟨rfl, balloc (Below.refl _ _) _⟩
  · have hb : ((m : Int) == 0) = false := by simp; omega
    rw [if_neg hm] at hr
    subst hr
    clear hm hnm
    go_enter Try.func16, Try.ntmps16
    go_wp2
    go_ret
    exact ⟨rfl, balloc (Below.refl _ _) _⟩
theorem wlen_any (W : World) (as_ al : Option Addr) (n cs m cl : Nat) (hnm : n + m ≤ 40) :
    Calls Try.prog 28 #[WV as_ n cs al m cl] W fun e w' => e = .returned (.int .i64 ((n + m : Nat) : Int)) ∧ Below W.heap.size W w' := by
  have h1 : (n : Int) + (m : Int) ≤ 40 := by omega
  have hn0 : 0 ≤ (n : Int) := by omega
  have hm0 : 0 ≤ (m : Int) := by omega
  clear hnm
  go_enter Try.func28, Try.ntmps28
  go_wp2
  go_ret
  exact ⟨ret_int (by push_cast; rfl), balloc (Below.refl _ _) _⟩
set_option maxHeartbeats 1000000 in
theorem wat_any (W : World) (as_ al : Option Addr) (cs cl : Nat) (w : WD) (h : WordAt W as_ al w) (hl : w.len ≤ 40) (h0 : 0 < w.loop.length) (k : Nat) (hk : k < w.len) :
    Calls Try.prog 30 #[WV as_ w.stem.length cs al w.loop.length cl, .int .i64 (k : Int)] W fun e w' => e = .returned (.int .u64 (w.at k : Int)) ∧ Below W.heap.size W w' := by
  obtain ⟨stem, loop⟩ := w
  unfold WD.len at hl hk
  simp only at hl h0 hk
  have hs := h.stem
  have hlp := h.loop
  simp only at hs hlp
  obtain ⟨u, hu⟩ : ∃ u, u = WD.at ⟨stem, loop⟩ k := ⟨_, rfl⟩
  rw [← hu]
  unfold WD.at at hu
  simp only at hu ⊢
  have hA := balloc (Below.refl W.heap.size W) (.cells #[.slice as_ stem.length cs, .slice al loop.length cl] TWd)
  have k0 : decide ((k : Int) < 0) = false := by simp
  have hsl : (stem.length : Int) ≤ 40 := by omega
  have hll : (loop.length : Int) ≤ 40 := by omega
  have hk40 : (k : Int) ≤ 40 := by omega
  have r1 : RowAt (W.alloc (.cells #[.slice as_ stem.length cs, .slice al loop.length cl] TWd)) W.heap.size TWd (WC as_ stem.length cs al loop.length cl) := RowAt.new (w := W) #[.slice as_ stem.length cs, .slice al loop.length cl] rfl
  by_cases hks : k < stem.length
  · rw [if_pos hks] at hu
    obtain ⟨b, off, x, hab, c, hx⟩ := hs.at k (by rw [ints_len]; exact hks)
    rw [ints_at hks] at hx
    have hux : x = (u : Int) := by rw [hx.out, hu, List.getD_eq_getElem?_getD, List.getElem?_eq_getElem hks]; rfl
    subst hux
    have c' := bcell hA c
    have hks2 : (k : Int) < (stem.length : Int) := by omega
    replace hA := Lib.hid hA
    replace r1 := Lib.hid r1
    subst hab
    clear h hs hlp hu hl hk hks hx h0
    go_enter Try.func30, Try.ntmps30
    go_wp2
    go_ret
    exact ⟨rfl, hA.out⟩
  · rw [if_neg hks] at hu
    obtain ⟨j, hj⟩ : ∃ j, j = (k - stem.length) % loop.length := ⟨_, rfl⟩
    have hjl : j < loop.length := by rw [hj]; exact Nat.mod_lt _ h0
    rw [← hj] at hu
    obtain ⟨b, off, x, hab, c, hx⟩ := hlp.at j (by rw [ints_len]; exact hjl)
    rw [ints_at hjl] at hx
    have hux : x = (u : Int) := by rw [hx.out, hu, List.getD_eq_getElem?_getD, List.getElem?_eq_getElem hjl]; rfl
    subst hux
    have c' := bcell hA c
    have c0 : (W.alloc (.cells #[.slice as_ stem.length cs, .slice al loop.length cl] TWd)).cell? ⟨W.heap.size, 0, none⟩ = some (.slice as_ stem.length cs) := r1.cell 0
    have c1 : (W.alloc (.cells #[.slice as_ stem.length cs, .slice al loop.length cl] TWd)).cell? ⟨W.heap.size, 1, none⟩ = some (.slice al loop.length cl) := r1.cell 1
    have hks2 : decide ((k : Int) < (stem.length : Int)) = false := by simp; omega
    have hks3 : (stem.length : Int) ≤ (k : Int) := by omega
    have hl0 : ((loop.length : Int) == 0) = false := beq_eq_false_iff_ne.2 (by omega)
    have hl1 : 0 < (loop.length : Int) := by omega
    have hd1 : IntKind.i64.wrap ((k : Int) - (stem.length : Int)) = ((k - stem.length : Nat) : Int) := by rw [IntWalk.i64_in _ (by omega)]; omega
    have hd2 : ((k - stem.length : Nat) : Int) % (loop.length : Int) = (j : Int) := by rw [hj]; exact (Int.natCast_emod _ _).symm
    have hd3 : (((k - stem.length : Nat) : Int)).tmod (loop.length : Int) = (j : Int) := by rw [Int.tmod_eq_emod_of_nonneg (Int.natCast_nonneg _)]; exact hd2
    have hj2 : (j : Int) < (loop.length : Int) := Int.ofNat_lt.2 hjl
    obtain ⟨dd, hdd⟩ : ∃ dd, dd = k - stem.length := ⟨_, rfl⟩
    rw [← hdd] at hd1 hd2 hd3
    have hdd0 : 0 ≤ (dd : Int) := by omega
    replace hdd := Lib.hid hdd
    replace hA := Lib.hid hA
    replace r1 := Lib.hid r1
    replace hj := Lib.hid hj
    subst hab
    clear h hs hlp hu hl hk hks hx h0 hjl
    go_enter Try.func30, Try.ntmps30
    go_wp2
    go_quiet (fail)
    go_wp2
    go_ret
    exact ⟨rfl, bdrewN hA.out _⟩
theorem and_eqb {a b c : Nat} (ha : a < 18446744073709551616) (hb : b < 18446744073709551616) : (bits .and .u64 (a : Int) (b : Int) == (c : Int)) = (a &&& b == c) := by
  rw [bits_and_u64_nat _ _ ha hb]
  by_cases h : a &&& b = c
  · subst h; simp
  · have : ¬ ((a &&& b : Nat) : Int) = (c : Int) := by omega
    have e : (a &&& b == c) = false := by simpa using h
    rw [e]
    simpa using this
set_option maxHeartbeats 1000000 in
theorem reads_any (W : World) (x : AN) (vt : Value) (u : Nat) (h1 : x.need < 18446744073709551616) (h2 : x.ban < 18446744073709551616) (hu : u < 18446744073709551616) :
    Calls Try.prog 29 #[.agg #[.int .u64 x.need, .int .u64 x.ban, .int .u64 x.inn, vt], .int .u64 u] W fun e w' => e = .returned (.bool (rdB x u)) ∧ Below W.heap.size W w' := by
  have t1 := and_eqb (a := x.need) (b := u) (c := x.need) h1 hu
  have t2 := and_eqb (a := x.ban) (b := u) (c := 0) h2 hu
  have hr : rdB x u = ((x.need &&& u == x.need) && (x.ban &&& u == 0)) := rfl
  rw [hr]
  obtain ⟨xn, xb, xi, xt⟩ := x
  simp only at t1 t2 hr ⊢
  generalize (xn &&& u == xn) = b1 at t1 hr
  generalize (xb &&& u == 0) = b2 at t2 hr
  have t2' : (bits .and .u64 (xb : Int) (u : Int) == 0) = b2 := t2
  clear hr h1 h2 hu t2
  cases b1 with
  | false =>
    go_enter Try.func29, Try.ntmps29
    go_wp2
    go_ret
    exact ⟨rfl, balloc (Below.refl _ _) _⟩
  | true =>
    go_enter Try.func29, Try.ntmps29
    go_wp2
    go_ret
    exact ⟨rfl, balloc (Below.refl _ _) _⟩
end Go.Proofs.Ytnllgigolfakpaa
