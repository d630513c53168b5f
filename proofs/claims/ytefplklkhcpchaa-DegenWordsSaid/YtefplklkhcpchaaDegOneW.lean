/- The walk of the making of an automaton of one set. Conditions: the bounds that an argument brings along, and on its lists. -/
import Derived.Test.YtefplklkhcpchaaDegSt
import Derived.Test.YtefplklkhcpchaaAutoChk3
import Derived.Deep.RegionLaw
namespace Go.Proofs.Ytefplklkhcpchaa
open Go.RowKit

theorem infoN : (Try.prog.info? TN).map (fun i => (i.zero, i.size, i.bytes)) = some (some (.agg #[.int .u64 0, .int .u64 0, .int .u64 0, .slice none 0 0]), 4, 48) := by kernel_rfl
/-- an automaton and why -/
def GivesAuto (w : World) (q : Int × AU) (e : Ending) (w' : World) : Prop :=
  ∃ a0 c0 ao co, e = .returned (.tuple #[.agg #[.int .i64 q.2.sets, .slice a0 q.2.init.length c0, .slice ao q.2.nodes.length co], .int .i64 q.1]) ∧ NumsAt .i64 w' a0 q.2.init ∧ NodesAt w' ao q.2.nodes ∧ Below w.heap.size w w'
theorem bsetN {w w1 : World} {n j : Nat} {v : Value} (h : Below w.heap.size w w1) (hn : w.heap.size ≤ n) : Below w.heap.size w (w1.setCell ⟨n, j, none⟩ v) := h.setCell (by exact hn) v
theorem NumsAt.low {k : IntKind} {w : World} {a : Option Addr} {xs : List Int} (h : NumsAt k w a xs) : ∀ ad : Addr, a = some ad → 0 < xs.length → ad.block < w.heap.size := fun ad had h0 => by
  obtain ⟨b, off, x, e, cx, _⟩ := h.at 0 h0
  have := World.block_lt_of_cell? w _ cx
  rw [had] at e
  cases e
  exact this

theorem set3_other {w : World} {Z j : Nat} (hj : j ≠ Z) (a b c : Value) : (((w.setCell ⟨Z, 0, none⟩ a).setCell ⟨Z, 1, none⟩ b).setCell ⟨Z, 2, none⟩ c).heap[j]? = w.heap[j]? := by
  rw [Below.heap_setCell _ _ _ _ (by simpa using hj), Below.heap_setCell _ _ _ _ (by simpa using hj), Below.heap_setCell _ _ _ _ (by simpa using hj)]
set_option maxHeartbeats 8000000 in
theorem one_any (w : World) (ai an : Option Addr) (ci cn : Nat) (A : AU) (h : AuAt w ai A.init.length an A.nodes.length A) (ok : AuOk A) (hsz : A.init.length ≤ 2000 ∧ ∀ x ∈ A.nodes, x.to.length ≤ 2000) :
    Calls Try.prog 10 #[.agg #[.int .i64 A.sets, .slice ai A.init.length ci, .slice an A.nodes.length cn]] w (GivesAuto w (oneP A)) := by
  have hb0 : Below w.heap.size w ((w.alloc (.cells #[.int .i64 A.sets, .slice ai A.init.length ci, .slice an A.nodes.length cn] TA)).alloc (.cells #[.int .i64 0, .slice none 0 0, .slice none 0 0] TA)) := balloc (balloc (Below.refl _ _) _) _
  have CK := Lib.hid (check_any _ ai an ci cn A (h.below hb0) ok)
  have r1 : RowAt ((w.alloc (.cells #[.int .i64 A.sets, .slice ai A.init.length ci, .slice an A.nodes.length cn] TA)).alloc (.cells #[.int .i64 0, .slice none 0 0, .slice none 0 0] TA)) w.heap.size TA [.int .i64 A.sets, .slice ai A.init.length ci, .slice an A.nodes.length cn] := (RowAt.new (w := w) #[.int .i64 A.sets, .slice ai A.init.length ci, .slice an A.nodes.length cn] rfl).alloc _
  have r2 : RowAt ((w.alloc (.cells #[.int .i64 A.sets, .slice ai A.init.length ci, .slice an A.nodes.length cn] TA)).alloc (.cells #[.int .i64 0, .slice none 0 0, .slice none 0 0] TA)) (w.heap.size + 1) TA [.int .i64 0, .slice none 0 0, .slice none 0 0] := RowAt.new #[.int .i64 0, .slice none 0 0, .slice none 0 0] (by simp)
  have R1 := Lib.hid r1
  have R2 := Lib.hid r2
  replace hb0 := Lib.hid hb0
  clear r1 r2
  by_cases hc : chk A ≠ 0
  · have hq : Hid (oneP A = (chk A, ⟨0, [], []⟩)) := by unfold Hid oneP; rw [if_pos hc]
    rw [hq.out]
    have hcb : (chk A != 0) = true := by simpa using hc
    generalize chk A = why at hcb CK
    clear hq hc h ok hsz
    go_enter Try.func10, Try.ntmps10
    go_wp2_with fail
    refine CK.out.mono ?_
    rintro e w1 ⟨rfl, hb1⟩
    have r2 := R2.out.below hb1
    have e0 : w1.cell? ⟨w.heap.size + 1, 0, none⟩ = some (.int .i64 0) := r2.cell 0
    have e1 : w1.cell? ⟨w.heap.size + 1, 1, none⟩ = some (.slice none 0 0) := r2.cell 1
    have e2 : w1.cell? ⟨w.heap.size + 1, 2, none⟩ = some (.slice none 0 0) := r2.cell 2
    have f0 := r2.free 0
    have f1 := r2.free 1
    have f2 := r2.free 2
    have hbw := btrans hb0.out hb1
    go_wp2
    refine bodyPost_ret (v := .tuple #[.agg #[.int .i64 0, .slice none 0 0, .slice none 0 0], .int .i64 why]) (by simp [results, Try.results10, go_sem, e0, e1, e2]) rfl ⟨none, 0, none, 0, rfl, NumsAt.nil _ _ _, NodesAt.nil _ _, ?_⟩
    exact bsetN (bsetN (bsetN hbw (by omega)) (by omega)) (by omega)
  have hc : chk A = 0 := by simpa using hc
  have hcb : (chk A != 0) = false := by simp [hc]
  obtain ⟨g1, g2, g3, g4, g5⟩ := chk_good hc
  obtain ⟨s, init, nodes⟩ := A
  simp only at g1 g2 g3 g4 CK R1 R2 hb0 hsz
  obtain ⟨sn, rfl⟩ := Int.eq_ofNat_of_zero_le g2
  have hsn : sn ≤ 16 := by omega
  have hq : oneP ⟨(sn : Int), init, nodes⟩ = (match loopP ⟨(sn : Int), init, nodes⟩ 258 0 (rowP 0 init ([], [])).1 [] with | none => ((11 : Int), (⟨0, [], []⟩ : AU)) | some ns => (0, ⟨1, (rowP 0 init ([], [])).2, ns⟩)) := by
    unfold oneP
    rw [if_neg (by simp [hc])]
    rfl
  rw [hc] at CK
  rw [hq]
  have hmm := @run_makeMap Try.prog
  have hi := h.init
  have hn := h.nodes
  simp only at hi hn
  have hgood0 : ∀ p ∈ (rowP 0 init ([], [])).1, goodP nodes.length sn p := good_row init ([], []) (by simp) (fun q hq => by obtain ⟨h1, h2⟩ := g4 q hq; exact ⟨q.toNat, 0, by simp; omega, by omega, by omega⟩)
  have hlen0 := (row_len 0 init ([], [])).1
  generalize hq0 : rowP 0 init ([], []) = q0 at hgood0 hlen0 ⊢
  obtain ⟨l0, ini⟩ := q0
  simp only at hgood0 hlen0 ⊢
  simp only [List.length_nil, Nat.zero_add] at hlen0
  generalize hres : (match loopP ⟨(sn : Int), init, nodes⟩ 258 0 l0 [] with | none => ((11 : Int), (⟨0, [], []⟩ : AU)) | some ns => (0, ⟨1, ini, ns⟩)) = res
  have HR : Hid (∀ r, loopP ⟨(sn : Int), init, nodes⟩ 258 0 l0 [] = r → res = match r with | none => ((11 : Int), (⟨0, [], []⟩ : AU)) | some ns => (0, ⟨1, ini, ns⟩)) := fun r hr => by rw [← hr, hres]
  replace hc := Lib.hid hc
  replace ok := Lib.hid ok
  replace hq0 := Lib.hid hq0
  replace hgood0 := Lib.hid hgood0
  replace hi := Lib.hid hi
  replace hn := Lib.hid hn
  replace g4 := Lib.hid g4
  replace g5 := Lib.hid g5
  replace hsz := Lib.hid hsz
  clear hq hres h hcb
  go_enter Try.func10, Try.ntmps10
  go_wp2_with fail
  refine CK.out.mono ?_
  rintro e w1 ⟨rfl, hb1⟩
  have hbw := btrans hb0.out hb1
  have r1 := R1.out.below hb1
  have r2 := R2.out.below hb1
  have hz1 : w.heap.size + 1 < w1.heap.size := r2.lt
  have hz0 : w.heap.size < w1.heap.size := by omega
  have a0 : w1.cell? ⟨w.heap.size, 0, none⟩ = some (.int .i64 (sn : Int)) := r1.cell 0
  have a1 : w1.cell? ⟨w.heap.size, 1, none⟩ = some (.slice ai init.length ci) := r1.cell 1
  have a2 : w1.cell? ⟨w.heap.size, 2, none⟩ = some (.slice an nodes.length cn) := r1.cell 2
  clear CK R1 R2
  obtain ⟨w5, hw5⟩ : ∃ w5, w5 = (w1.alloc (.map #[] 0)).alloc (.cells #[.int .i64 (sn : Int), .slice ai init.length ci, .slice an nodes.length cn, .map (some w1.heap.size), .slice none 0 0] TM) := ⟨_, rfl⟩
  have hb5 : Below w1.heap.size w1 w5 := by rw [hw5]; exact balloc (balloc (Below.refl _ _) _) _
  have hMK : MK w5 w.heap.size (w1.heap.size + 1) w1.heap.size none 0 (sn : Int) ai init.length ci an nodes.length cn [] := by
    refine ⟨?_, ?_, OwnR.nil _ _ _ _, by omega, by omega, by omega, fun j hj => by simp [Value.ownBlock] at hj⟩
    · rw [hw5]; exact RowAt.new #[.int .i64 (sn : Int), .slice ai init.length ci, .slice an nodes.length cn, .map (some w1.heap.size), .slice none 0 0] (by simp)
    · rw [hw5]; exact (PMap.made w1).keeps (Keeps.alloc _ _ (fun _ => False)) (fun h => h)
  have hbw5 := btrans hbw hb5
  have s2 := Lib.hid (r2.below hb5)
  have CR := row_any w5 w.heap.size (w1.heap.size + 1) w1.heap.size none 0 (sn : Int) ai init.length ci an nodes.length cn [] hMK hbw5.size ai ci init (hi.out.below hbw5) (fun ad had h0 => hi.out.low ad had h0) 0 (by decide) (fun q hq => by obtain ⟨h1, h2⟩ := g4.out q hq; exact wfI (by omega)) (by simp only [List.length_nil]; have := hsz.out.1; omega)
  rw [hq0.out] at CR
  replace CR := Lib.hid CR
  have HW5 := Lib.hid hw5
  replace hMK := Lib.hid hMK
  clear hw5 r1 r2
  go_wp2_with fail
  rw [← HW5.out]
  refine CR.out.mono ?_
  rintro e w6 ⟨ai0, ci0, pa, pc, rfl, ho6, hM6, hK6, hf6, hc6⟩
  simp only at ho6 hM6 hf6 hc6
  have hbw6 : Below w.heap.size w w6 := hK6.below hbw5 (fun j hj => by have := (hMK.out.hotB hj).1; exact this)
  have hot5 : ∀ j, Hot (w1.heap.size + 1) w1.heap.size (.slice pa l0.length pc) j → w1.heap.size ≤ j := by
    intro j hj
    rcases hj with h1 | h1 | h1
    · omega
    · omega
    · rcases hf6.out j h1 with h2 | h2
      · simp [Value.ownBlock] at h2
      · have := hb5.size; omega
  have s6 := s2.out.keeps hK6 (fun hh => by
    rcases hh with h1 | h1 | h1
    · omega
    · omega
    · simp [Value.ownBlock] at h1)
  have hz6 := hK6.size
  have hz5 := hb5.size
  have hSt : OneSt (w6.alloc (.cells #[.int .i64 1, .slice ai0 ini.length ci0, .slice none 0 0] TA)) w.heap.size (w1.heap.size + 1) w1.heap.size w6.heap.size (w.heap.size + 1) pa pc (sn : Int) ai init.length ci an nodes.length cn l0 ai0 ci0 ini none 0 [] [] := by
    have hal : Below w6.heap.size w6 (w6.alloc (.cells #[.int .i64 1, .slice ai0 ini.length ci0, .slice none 0 0] TA)) := balloc (Below.refl _ _) _
    refine ⟨hM6.below hal, RowAt.new #[.int .i64 1, .slice ai0 ini.length ci0, .slice none 0 0] rfl, by omega, fun hh => by have := (hM6.hotB hh).2; omega, (NumsAt.of_owns ho6).below hal, ?_, OwnR.nil _ _ _ _, fun j hj => by simp [Value.ownBlock] at hj, rfl, by simp; omega⟩
    intro ad had
    have h1 := hc6.out ad.block (by rw [had]; rfl)
    have h2 := (ho6.lt2 (j := ad.block) (by rw [had]; rfl)).2
    exact ⟨h1.2, ⟨by omega, by omega⟩, by simp [Value.ownBlock], by simp; omega⟩
  have hs7 := s6.alloc (.cells #[.int .i64 1, .slice ai0 ini.length ci0, .slice none 0 0] TA)
  have hb7 := balloc hbw6 (.cells #[.int .i64 1, .slice ai0 ini.length ci0, .slice none 0 0] TA)
  replace hSt := Lib.hid hSt
  replace hs7 := Lib.hid hs7
  replace hb7 := Lib.hid hb7
  have HOT := Lib.hid hot5
  have hzz : w.heap.size + 1 < w6.heap.size := by omega
  clear hMK HW5 CR s2 hK6 hf6 hc6 ho6 hM6 hbw6 s6 hot5 a0 a1 a2 hbw5 hb5 hbw hb1
  go_wp2
  generalize hM : w1.heap.size + 1 = M at hSt HOT
  have hMge : w.heap.size + 1 < M := by omega
  obtain ⟨mb, hmb⟩ : ∃ mb, mb = w1.heap.size := ⟨_, rfl⟩
  rw [← hmb] at hSt HOT
  have hmbge : w.heap.size + 1 < mb := by omega
  replace hM := Lib.hid hM
  replace hmb := Lib.hid hmb
  have hfresh0 : Hid (∀ j, (Value.slice pa l0.length pc).ownBlock = some j → w.heap.size + 1 < j) := fun j hj => by have := HOT.out j (.inr (.inr hj)); omega
  obtain ⟨r, hr⟩ : ∃ r, r = loopP ⟨(sn : Int), init, nodes⟩ 258 0 l0 [] := ⟨_, rfl⟩
  have HR2 := Lib.hid (HR.out r hr.symm)
  replace hr := Lib.hid hr.symm
  clear HR HOT
  go_loopw [23] (fun iv wr => ∃ (i : Nat) (l : List PR) (pa : Option Addr) (pc : Nat) (ao : Option Addr) (co : Nat) (out : List AN) (cells : List Value), i ≤ 256 ∧ iv = .int .i64 i ∧ i ≤ l.length ∧ OneSt wr w.heap.size M mb w6.heap.size (w.heap.size + 1) pa pc (sn : Int) ai init.length ci an nodes.length cn l ai0 ci0 ini ao co out cells ∧ RowAt wr (w.heap.size + 1) TA [.int .i64 0, .slice none 0 0, .slice none 0 0] ∧ Below w.heap.size w wr ∧
      Hid (∀ p ∈ l, goodP nodes.length sn p) ∧ Hid (loopP ⟨(sn : Int), init, nodes⟩ (258 - i) i l out = r) ∧ Hid (∀ j, (Value.slice pa l.length pc).ownBlock = some j → w.heap.size + 1 < j) ∧ Hid (∀ j, (Value.slice ao out.length co).ownBlock = some j → w.heap.size + 1 < j) ∧ out.length = i) (fun iv _ => 257 - (intOf iv).toNat)
  case atStart => exact ⟨0, l0, pa, pc, none, 0, [], [], Nat.zero_le _, rfl, Nat.zero_le _, hSt.out, hs7.out, hb7.out, hgood0, hr, hfresh0, (fun j hj => by simp [Value.ownBlock] at hj), rfl⟩
  case round =>
    obtain ⟨i, l, pa, pc, ao, co, out, cells, hi6, rfl, hil, st, rz, hb, hgd, hlp, hfp, hfo, hol⟩ := hrel
    clear hSt hs7 hb7 hgood0 hr hfresh0 hmm
    replace hol := Lib.hid hol
    have m4 : wr.cell? ⟨M, 4, none⟩ = some (.slice pa l.length pc) := st.maker.row.cell 4
    have hMl := st.maker.row.lt
    have hXl := st.box.lt
    have hi257 : (i : Int) < 257 := by omega
    have hfu : 258 - i = (257 - i) + 1 := by omega
    replace hlp : Hid ((if 256 < l.length then none else if i < l.length then loopP ⟨(sn : Int), init, nodes⟩ (257 - i) (i + 1) (nodeP ⟨(sn : Int), init, nodes⟩ l (l.getD i (0, 0))).1 (out ++ [(nodeP ⟨(sn : Int), init, nodes⟩ l (l.getD i (0, 0))).2]) else some out) = r) := by
      have := hlp.out
      rw [hfu] at this
      exact this
    clear hfu
    by_cases h256 : 256 < l.length
    · have hr2 : Hid (res = ((11 : Int), (⟨0, [], []⟩ : AU))) := by
        have h1 := hlp.out
        rw [if_pos h256] at h1
        have h2 := HR2.out
        rw [← h1] at h2
        exact h2
      have h256i : (256 : Int) < (l.length : Int) := by omega
      obtain rfl := hr2.out
      clear hr2 hlp HR2 h256
      have e0 : wr.cell? ⟨w.heap.size + 1, 0, none⟩ = some (.int .i64 0) := rz.cell 0
      have e1 : wr.cell? ⟨w.heap.size + 1, 1, none⟩ = some (.slice none 0 0) := rz.cell 1
      have e2 : wr.cell? ⟨w.heap.size + 1, 2, none⟩ = some (.slice none 0 0) := rz.cell 2
      have f0 := rz.free 0
      have f1 := rz.free 1
      have f2 := rz.free 2
      go_wp2
      refine bodyPost_ret (v := .tuple #[.agg #[.int .i64 0, .slice none 0 0, .slice none 0 0], .int .i64 11]) (by simp [results, Try.results10, go_sem, e0, e1, e2]) rfl ⟨none, 0, none, 0, rfl, NumsAt.nil _ _ _, NodesAt.nil _ _, ?_⟩
      exact bsetN (bsetN (bsetN hb (by omega)) (by omega)) (by omega)
    have h256' : decide ((256 : Int) < (l.length : Int)) = false := by simp; omega
    by_cases hlt : i < l.length
    · have hne : ((i : Int) == (l.length : Int)) = false := by simp; omega
      have hget : l.getD i (0, 0) = l[i] := by rw [List.getD_eq_getElem?_getD, List.getElem?_eq_getElem hlt]; rfl
      obtain ⟨gp, hpa, hgpB, hgpl, p0, p1⟩ := st.maker.own.at i hlt
      obtain ⟨i0, t0, hp, hi0, ht0⟩ := hgd.out _ (List.getElem_mem hlt)
      rw [hget, hp] at hlp
      rw [hp] at p0 p1
      simp only at p0 p1
      clear hget
      have htl := hsz.out.2 _ (List.getElem_mem hi0)
      have CN := node_any w wr.drew hb.drew M mb pa pc sn ai init.length ci an cn init nodes l (st.maker.below (Below.refl _ _).drew) hn.out ok.out i0 hi0 g1 t0 hsn (by omega) (by omega)
      have hgn := good_node (A := ⟨(sn : Int), init, nodes⟩) rfl hc.out (l := l) hgd.out ⟨i0, t0, rfl, hi0, ht0⟩
      replace hlp : Hid (loopP ⟨(sn : Int), init, nodes⟩ (257 - i) (i + 1) (nodeP ⟨(sn : Int), init, nodes⟩ l ((i0 : Int), (t0 : Int))).1 (out ++ [(nodeP ⟨(sn : Int), init, nodes⟩ l ((i0 : Int), (t0 : Int))).2]) = r) := by
        have := hlp.out
        rwa [if_neg h256, if_pos hlt] at this
      have hl2 : l.length ≤ (nodeP ⟨(sn : Int), init, nodes⟩ l ((i0 : Int), (t0 : Int))).1.length := (row_len _ _ (l, ([] : List Int))).2
      generalize nodeP ⟨(sn : Int), init, nodes⟩ l ((i0 : Int), (t0 : Int)) = q at CN hgn hlp hl2
      obtain ⟨l2, y⟩ := q
      simp only at hgn hlp hl2
      replace CN := Lib.hid CN
      replace hgn := Lib.hid hgn
      subst hpa
      have ST := Lib.hid st
      have x2 : wr.cell? ⟨w6.heap.size, 2, none⟩ = some (.slice ao out.length co) := st.box.cell 2
      have hi2 : (i : Int) < (l.length : Int) := by omega
      have hbS := hb.size
      replace rz := Lib.hid rz
      replace h256 := Lib.hid h256
      clear hp htl st
      have nI : Hid (out.length + 1 ≤ maxLen) := by show _ ≤ _; unfold maxLen; have := hol.out; omega
      have yI : Hid ((out.length + 1) * 48 ≤ 140737488355328) := by show _ ≤ _; have := hol.out; omega
      have T2 : Hid (∀ (w2 : World) (hK2 : Keeps wr.drew w2 (Hot M mb (.slice (some ⟨gp, 0, none⟩) l.length pc))), OwnR w2 w.heap.size TN 4 ao out.length co cells ∧ w2.cell? ⟨w6.heap.size, 2, none⟩ = some (.slice ao out.length co) ∧ w6.heap.size < w2.heap.size ∧ RowAt w2 w6.heap.size TA [.int .i64 1, .slice ai0 ini.length ci0, .slice ao out.length co] ∧ w.heap.size ≤ w2.heap.size) := fun w2 hK2 => by
        have rX := RowAt.keeps (w := wr.drew) ST.out.box hK2 ST.out.hXc
        refine ⟨OwnR.keeps (w := wr.drew) ST.out.own hK2 (fun j hj => (ST.out.ownC j hj).1), rX.cell 2, rX.lt, rX, ?_⟩
        have := hK2.size
        have h2 : wr.drew.heap.size = wr.heap.size := rfl
        omega
      go_wp2_with fail
      go_region_law (first
        | (go_simp; go_at_call 17; (with_reducible refine CN.out.mono ?_); rintro e w2 ⟨ay, cy, pa2, pc2, rfl, hoy, hM2, hK2, hf2, hc2⟩; simp only at hoy hM2 hf2 hc2; obtain ⟨o2, xc, xl, rX2, hB2⟩ := T2.out w2 hK2; replace hoy := Lib.hid hoy; replace hM2 := Lib.hid hM2; replace hK2 := Lib.hid hK2; replace o2 := Lib.hid (OwnR.alloc o2 (.cells #[.int .u64 y.need, .int .u64 y.ban, .int .u64 y.inn, .slice ay y.to.length cy] TN)); replace rX2 := Lib.hid rX2; have nc := Lib.hid (new_cells w2 #[.int .u64 y.need, .int .u64 y.ban, .int .u64 y.inn, .slice ay y.to.length cy] TN rfl); have oc : Hid (∀ u ∈ [Value.int .u64 y.need, .int .u64 y.ban, .int .u64 y.inn, .slice ay y.to.length cy], u.oneCell' = true) := (fun u hu => by simp at hu; rcases hu with rfl | rfl | rfl | rfl <;> rfl); have hBA : Hid (w.heap.size ≤ (w2.alloc (.cells #[.int .u64 y.need, .int .u64 y.ban, .int .u64 y.inn, .slice ay y.to.length cy] TN)).heap.size) := (by show _ ≤ _; simp; omega))
        | (refine step_appR ?_ (.tmp 41) (.tmp 51) 23 TN (.agg #[.int .u64 0, .int .u64 0, .int .u64 0, .slice none 0 0]) 4 48 ?_ Try.underlying23 infoN rfl (by decide) w.heap.size ao out.length co cells ?_ o2.out w2.heap.size 1 [.int .u64 y.need, .int .u64 y.ban, .int .u64 y.inn, .slice ay y.to.length cy] ?_ rfl nc.out oc.out nI.out yI.out hBA.out ?_; exact rfl; exact rfl; exact rfl; exact rfl; intro ao3 co3 w3 ho3 hg3 hat3; have rX3 := (rX2.out.alloc (.cells #[.int .u64 y.need, .int .u64 y.ban, .int .u64 y.inn, .slice ay y.to.length cy] TN)).grow hg3 (fun e => (ST.out.ownC _ e).2.1 rfl); have x3 : w3.cell? ⟨w6.heap.size, 2, none⟩ = some (.slice ao out.length co) := rX3.cell 2; have f3 := rX3.free 2; replace ho3 := Lib.hid ho3; replace hg3 := Lib.hid hg3; replace hat3 := Lib.hid hat3; replace rX3 := Lib.hid rX3))
      all_goals (
        have hK : Keeps wr w2 (Hot M mb (.slice (some ⟨gp, 0, none⟩) l.length pc)) := ⟨hK2.out.os, hK2.out.tape, hK2.out.output, hK2.out.size, hK2.out.block⟩
        have hAl : Below w2.heap.size w2 (w2.alloc (.cells #[.int .u64 y.need, .int .u64 y.ban, .int .u64 y.inn, .slice ay y.to.length cy] TN)) := balloc (Below.refl _ _) _
        have hatt : (Value.slice ao3 (out.length + 1) co3).ownBlock = (Value.slice ao out.length co).ownBlock ∨ ∃ z, w2.heap.size ≤ z ∧ (Value.slice ao3 (out.length + 1) co3).ownBlock = some z := by
          rcases hat3.out with h1 | h1
          · exact .inl h1
          · exact .inr ⟨_, hAl.size, h1⟩
        have STn := ST.out.step hoy.out hM2.out hK hf2.out hc2.out hAl ho3.out hg3.out hatt
        have hzl := rz.out.lt
        have hZh : ¬ Hot M mb (.slice (some ⟨gp, 0, none⟩) l.length pc) (w.heap.size + 1) := fun hh => by
          rcases hh with h1 | h1 | h1
          · omega
          · omega
          · have := hfp.out _ h1; omega
        have hZo : (Value.slice ao out.length co).ownBlock ≠ some (w.heap.size + 1) := fun e => by have := hfo.out _ e; omega
        have rzn := (((rz.out.keeps hK hZh).below hAl).grow hg3.out hZo).kset (show w6.heap.size ≠ w.heap.size + 1 by omega) 2 (.slice ao3 (out.length + 1) co3)
        have hbn := bsetN (n := w6.heap.size) (j := 2) (v := .slice ao3 (out.length + 1) co3) (bgrown (balloc (hK.below hb (fun j hj => (ST.out.maker.hotB hj).1)) (.cells #[.int .u64 y.need, .int .u64 y.ban, .int .u64 y.inn, .slice ay y.to.length cy] TN)) hg3.out (fun j hj => (OwnR.lt ST.out.own hj).1)) (by omega)
        have hfpn : Hid (∀ j, (Value.slice pa2 l2.length pc2).ownBlock = some j → w.heap.size + 1 < j) := fun j hj => by
          rcases hf2.out j hj with h1 | h1
          · exact hfp.out j h1
          · have h3 : wr.drew.heap.size = wr.heap.size := rfl
            omega
        have hfon : Hid (∀ j, (Value.slice ao3 (out.length + 1) co3).ownBlock = some j → w.heap.size + 1 < j) := fun j hj => by
          rcases hatt with h1 | ⟨z, h1, h2⟩
          · exact hfo.out j (by rw [← h1]; exact hj)
          · rw [h2] at hj
            cases hj
            have := hK.size
            omega
        have hle : Hid ((out ++ [y]).length = out.length + 1) := by show _ = _; simp
        have h256n := h256.out
        replace STn := Lib.hid STn
        replace rzn := Lib.hid rzn
        replace hbn := Lib.hid hbn
        clear hatt hK hAl x3 f3 xc
        go_wp2
        go_roundw
        case rel => exact ⟨i + 1, l2, pa2, pc2, ao3, co3, out ++ [y], _, by omega, by go_num, by omega, STn.out, rzn.out, hbn.out, hgn, by show _ = _; rw [show 258 - (i + 1) = 257 - i by omega]; exact hlp.out, hfpn, by rw [hle.out]; exact hfon, by rw [hle.out, hol.out]⟩
        case measure => simp [intOf]; omega)
    · have hee : ((i : Int) == (l.length : Int)) = true := by simp; omega
      have hr2 : Hid (res = ((0 : Int), (⟨1, ini, out⟩ : AU))) := by
        have h1 := hlp.out
        rw [if_neg h256, if_neg hlt] at h1
        have h2 := HR2.out
        rw [← h1] at h2
        exact h2
      obtain rfl := hr2.out
      clear hr2 hlp HR2
      have e0 : wr.cell? ⟨w.heap.size + 1, 0, none⟩ = some (.int .i64 0) := rz.cell 0
      have e1 : wr.cell? ⟨w.heap.size + 1, 1, none⟩ = some (.slice none 0 0) := rz.cell 1
      have e2 : wr.cell? ⟨w.heap.size + 1, 2, none⟩ = some (.slice none 0 0) := rz.cell 2
      have f0 := rz.free 0
      have f1 := rz.free 1
      have f2 := rz.free 2
      have x0 : wr.cell? ⟨w6.heap.size, 0, none⟩ = some (.int .i64 1) := st.box.cell 0
      have x1 : wr.cell? ⟨w6.heap.size, 1, none⟩ = some (.slice ai0 ini.length ci0) := st.box.cell 1
      have x2 : wr.cell? ⟨w6.heap.size, 2, none⟩ = some (.slice ao out.length co) := st.box.cell 2
      replace h256 := Lib.hid h256
      have hnodes := Lib.hid (st.cs.nodes st.own)
      have hini := Lib.hid st.ini
      go_wp2
      refine bodyPost_ret (v := .tuple #[.agg #[.int .i64 1, .slice ai0 ini.length ci0, .slice ao out.length co], .int .i64 0]) (by simp [results, Try.results10, go_sem, e0, e1, e2]) rfl ⟨ai0, ci0, ao, co, rfl, ?_, ?_, ?_⟩
      · exact hini.out.keep (fun ad had _ => set3_other (st.iniC ad had).2.1.2 _ _ _)
      · exact CellsOf.nodes (C := fun _ => True) (st.cs.keep (fun j hj => set3_other hj.2.1.2 _ _ _) (fun _ _ => trivial)) (OwnR.keeps (S := fun j => j = w.heap.size + 1) st.own ⟨rfl, rfl, rfl, by simp [World.setCell], fun j _ hj => set3_other hj _ _ _⟩ (fun j hj => (st.ownC j hj).2.2))
      · exact bsetN (bsetN (bsetN hb (by omega)) (by omega)) (by omega)
end Go.Proofs.Ytefplklkhcpchaa
