/- The program's New: a product of a source and an automaton. Conditions: the bounds of an argument. -/
import Derived.Test.YtmlbjfaofppikaaPrNodes
import Derived.Test.YtmlbjfaofppikaaPrFirst
import Derived.Deep.DeepCutAuto
import Derived.BigRegion
import Derived.Deep.CutBlock
import Derived.Deep.RegionHeld3
namespace Go.Proofs.Ytmlbjfaofppikaa
open Go.RowKit

abbrev TA : Nat := 30
abbrev auv (ai an : Option Addr) (ci cn : Nat) (A : AU) : Value := .agg #[.int .i64 A.sets, .slice ai A.init.length ci, .slice an A.nodes.length cn]
theorem new_nil (w : World) (ai an : Option Addr) (ci cn : Nat) (A : AU) :
    Calls Try.prog 13 #[.nilIface, auv ai an ci cn A] w fun e w' => e = .returned (.pointer none) ∧ Below w.heap.size w w' := by
  go_enter Try.func13, Try.ntmps13
  go_wp2
  go_ret
  exact ⟨rfl, balloc (Below.refl _ _) _⟩
theorem methSets : ∀ (r : TypeId) (f : Nat) (w : World), Sem.run Try.prog (method (r + 1) TFp (.pointer (some ⟨f, 0, none⟩)) "Sets") w = Result.ok (81, .pointer (some ⟨f, 0, none⟩)) w := by
  intro r f w
  kernel_rfl
set_option maxHeartbeats 4000000 in
theorem new_no (w : World) (ai an : Option Addr) (ci cn f : Nat) (G : GR) (inb : List Nat) (ns : Nat) (A : AU) (hF : FxAt w f G inb ns) (hns : ns ≤ 16) (hA : AuAt w ai A.init.length an A.nodes.length A) (aok : AuOk A) (hc : chk A ≠ 0) :
    Calls Try.prog 13 #[.iface TFp (.pointer (some ⟨f, 0, none⟩)), auv ai an ci cn A] w fun e w' => e = .returned (.pointer none) ∧ Below w.heap.size w w' := by
  obtain ⟨w1, hw1⟩ : ∃ w1, w.alloc (.cells #[.int .i64 A.sets, .slice ai A.init.length ci, .slice an A.nodes.length cn] TA) = w1 := ⟨_, rfl⟩
  have hb1 : Below w.heap.size w w1 := by rw [← hw1]; exact balloc (Below.refl _ _) _
  have ha : RowAt w1 w.heap.size TA [.int .i64 A.sets, .slice ai A.init.length ci, .slice an A.nodes.length cn] := by rw [← hw1]; exact RowAt.new #[.int .i64 A.sets, .slice ai A.init.length ci, .slice an A.nodes.length cn] rfl
  have a0 : w1.cell? ⟨w.heap.size, 0, none⟩ = some (.int .i64 A.sets) := ha.cell 0
  have a1 : w1.cell? ⟨w.heap.size, 1, none⟩ = some (.slice ai A.init.length ci) := ha.cell 1
  have a2 : w1.cell? ⟨w.heap.size, 2, none⟩ = some (.slice an A.nodes.length cn) := ha.cell 2
  have FS := Lib.hid (fun wr (hb : Below w.heap.size w wr) => fsets_any wr f G inb ns (hF.below hb))
  have CH := check_any w1 ai an ci cn A (hA.below hb1) aok
  generalize chk A = c at hc CH
  replace CH := Lib.hid CH
  have hcb : (c != 0) = true := by simpa using hc
  have hM := methSets
  have d1 : decide ((ns : Int) < 0) = false := by simp
  have d2 : decide (16 < (ns : Int)) = false := by simp; omega
  replace hb1 := Lib.hid hb1
  clear hA aok ha hF hc
  go_enter Try.func13, Try.ntmps13
  go_wp2_with fail
  refine (FS.out _ hb1.out).mono ?_
  rintro e w2 ⟨rfl, rfl⟩
  go_wp2_with fail
  refine (FS.out _ hb1.out).mono ?_
  rintro e w2 ⟨rfl, rfl⟩
  go_wp2_with fail
  refine CH.out.mono ?_
  rintro e w2 ⟨rfl, hb2⟩
  go_wp2
  go_ret
  exact ⟨rfl, btrans hb1.out hb2⟩
/-- the state while nodes are put into the product -/
structure Nw (w : World) (ai an a4 ea : Option Addr) (gi ci n cn sn p B c4 ec f : Nat) (all : Int) (A : AU) (S : List NR) (wr : World) : Prop where
  row : RowAt wr p TPr [.iface TFp (.pointer (some ⟨f, 0, none⟩)), .int .i64 sn, .slice a4 gi c4, .slice ea S.length ec, .int .i64 all]
  i1 : NumsAt .i64 wr a4 A.init
  l1 : ∀ ad, a4 = some ad → ad.block < B ∧ ad.block ≠ p
  arg : RowAt wr w.heap.size TA [.int .i64 sn, .slice ai gi ci, .slice an n cn]
  below : Below w.heap.size w wr
  es : NsOwn wr B ea ec S
  hB : B ≤ wr.heap.size
  hp : p < B
  hw : w.heap.size < p
theorem Nw.start {w wo w4 : World} {ai an a4 : Option Addr} {gi ci n cn sn p c4 f T : Nat} {all : Int} {A : AU} (hw : w.heap.size < p) (hb : Below w.heap.size w wo) (hrow : RowAt wo p TPr [.iface TFp (.pointer (some ⟨f, 0, none⟩)), .int .i64 0, .slice none 0 0, .slice none 0 0, .int .i64 all]) (harg : RowAt wo w.heap.size TA [.int .i64 sn, .slice ai gi ci, .slice an n cn])
    (B1 : Below wo.heap.size wo w4) (ho4 : OwnN .i64 w4 wo.heap.size T a4 A.init.length c4 A.init) (e1 : gi = A.init.length) :
    Nw w ai an a4 none gi ci n cn sn p w4.heap.size c4 0 f all A [] (((w4.setCell ⟨p, 1, none⟩ (.int .i64 sn)).setCell ⟨p, 2, none⟩ (.slice a4 A.init.length c4)).setCell ⟨p, 3, none⟩ (.slice none 0 0)) := by
  have hpl := hrow.lt
  have hz := B1.size
  have k0 : Keeps w4 (w4.setCell ⟨p, 1, none⟩ (.int .i64 sn)) (fun j => j = p) := Keeps.set _ _ _ _ rfl
  have k1 := k0.trans (Keeps.set (S := fun j => j = p) _ p 2 (.slice a4 A.init.length c4) rfl) (fun _ _ h => h)
  have k2 := k1.trans (Keeps.set (S := fun j => j = p) _ p 3 (.slice none 0 0) rfl) (fun _ _ h => h)
  have l4 : ∀ ad, a4 = some ad → ad.block < w4.heap.size ∧ ad.block ≠ p := fun ad had => by
    have := ho4.lt2 (j := ad.block) (by rw [had]; rfl)
    omega
  refine ⟨?_, NumsAt.keeps (NumsAt.of_owns ho4) k2 (fun ad had => (l4 ad had).2), l4, (harg.below B1).keeps k2 (by omega), k2.below (btrans hb B1) (fun j e => by omega), NsOwn.nil _ _, k2.size, by omega, hw⟩
  rw [e1]
  exact (((hrow.below B1).set 1 (.int .i64 sn)).set 2 (.slice a4 A.init.length c4)).set 3 (.slice none 0 0)
theorem Nw.app {w wr : World} {ai an a4 ea : Option Addr} {gi ci n cn sn p B c4 ec f : Nat} {all : Int} {A : AU} {S : List NR} (h : Nw w ai an a4 ea gi ci n cn sn p B c4 ec f all A S wr) {w4 w5 : World} (hb : Below wr.heap.size wr w4) {s : NR} (hs : OwnN .i64 w4 B TyI s.1 s.2.2.to.length s.2.1 s.2.2.to) (hsn : ∀ j, nob s = some j → wr.heap.size ≤ j)
    {a' : Option Addr} {c' : Nat} {wA : World} (hA : Below w4.heap.size w4 wA) (ho : OwnR w5 B TN 4 a' (S.length + 1) c' (ncells S ++ ncell s)) (hg : wA.grownBy w5 (OB ea S.length ec)) (hat : OB a' (S.length + 1) c' = OB ea S.length ec ∨ OB a' (S.length + 1) c' = some wA.heap.size) :
    Nw w ai an a4 a' gi ci n cn sn p B c4 c' f all A (S ++ [s]) (w5.setCell ⟨p, 3, none⟩ (.slice a' (S.length + 1) c')) := by
  have hbA : Below wr.heap.size wr wA := btrans hb hA
  have hob : ∀ j, OB ea S.length ec = some j → B ≤ j ∧ j < wr.heap.size := fun j hj => OwnR.lt h.es.own hj
  have hp := h.hp
  have hw := h.hw
  have hBz := h.hB
  have hk1 : Keeps wr w5 (fun j => OB ea S.length ec = some j) := (Keeps.of_below (S := fun j => OB ea S.length ec = some j) hbA).trans (Keeps.of_grown (S := fun j => OB ea S.length ec = some j) hg (fun j e => e)) (fun _ _ h => h)
  have hk2 : Keeps wr w5 (fun j => OB ea S.length ec = some j ∨ j = p) := (Keeps.of_below (S := fun j => OB ea S.length ec = some j ∨ j = p) hbA).trans (Keeps.of_grown (S := fun j => OB ea S.length ec = some j ∨ j = p) hg (fun j e => .inl e)) (fun _ _ h => h)
  have hk := hk2.trans (Keeps.set (S := fun j => OB ea S.length ec = some j ∨ j = p) w5 p 3 (.slice a' (S.length + 1) c') (.inr rfl)) (fun _ _ h => h)
  have hes := (h.es.below hb).app hs (fun j hj e => by have := hsn j hj; have := (hob j e).2; omega) hA ho hg hat
  have el : (S ++ [s]).length = S.length + 1 := by simp
  refine ⟨?_, h.i1.keeps hk (fun ad had e => ?_), h.l1, h.arg.keeps hk (fun e => ?_), hk.below h.below (fun j e => ?_), hes.keeps (Keeps.set (S := fun j => j = p) w5 p 3 (.slice a' (S.length + 1) c') rfl) (fun j hj e => ?_), Nat.le_trans hBz hk.size, hp, hw⟩
  · rw [el]
    exact (h.row.keeps hk1 (fun e => by have := (hob _ e).1; omega)).set 3 _
  · have := h.l1 ad had
    rcases e with e | e
    · have := (hob _ e).1; omega
    · omega
  · rcases e with e | e
    · have := (hob _ e).1; omega
    · omega
  · rcases e with e | e
    · have := (hob _ e).1; omega
    · omega
  · have := (hes.blk hj).1
    omega
set_option maxHeartbeats 4000000 in
theorem new_yes (w : World) (ai an : Option Addr) (ci cn f : Nat) (G : GR) (inb : List Nat) (ns : Nat) (A : AU) (hF : FxAt w f G inb ns) (hns : ns ≤ 16) (hA : AuAt w ai A.init.length an A.nodes.length A) (aok : AuOk A) (hc : chk A = 0) :
    Calls Try.prog 13 #[.iface TFp (.pointer (some ⟨f, 0, none⟩)), auv ai an ci cn A] w fun e w' => ∃ p, e = .returned (.pointer (some ⟨p, 0, none⟩)) ∧ Below w.heap.size w w' ∧ ∀ sets, ns = sets.length → inb = inbits G.edges.length sets → srcB G sets = true → GOk G → PrAt w' p G sets A := by
  obtain ⟨s0, s16, n256⟩ := chk_sets hc
  obtain ⟨sn, hsn⟩ := Int.eq_ofNat_of_zero_le s0
  obtain ⟨gi, hgi⟩ : ∃ x, x = A.init.length := ⟨_, rfl⟩
  obtain ⟨n, hn⟩ : ∃ x, x = A.nodes.length := ⟨_, rfl⟩
  obtain ⟨w1, hw1⟩ : ∃ w1, w.alloc (.cells #[.int .i64 A.sets, .slice ai A.init.length ci, .slice an A.nodes.length cn] TA) = w1 := ⟨_, rfl⟩
  have hb1 : Below w.heap.size w w1 := by rw [← hw1]; exact balloc (Below.refl _ _) _
  have ha : RowAt w1 w.heap.size TA [.int .i64 A.sets, .slice ai A.init.length ci, .slice an A.nodes.length cn] := by rw [← hw1]; exact RowAt.new #[.int .i64 A.sets, .slice ai A.init.length ci, .slice an A.nodes.length cn] rfl
  have FS := Lib.hid (fun wr (hb : Below w.heap.size w wr) => fsets_any wr f G inb ns (hF.below hb))
  have HA := Lib.hid (fun wr (hb : Below w.heap.size w wr) => hA.below hb)
  have CH := check_any w1 ai an ci cn A (hA.below hb1) aok
  unfold auv
  rw [hc] at CH
  simp only [hsn, ← hgi, ← hn] at CH ha hw1 ⊢
  have a0 : w1.cell? ⟨w.heap.size, 0, none⟩ = some (.int .i64 sn) := ha.cell 0
  have a1 : w1.cell? ⟨w.heap.size, 1, none⟩ = some (.slice ai gi ci) := ha.cell 1
  have a2 : w1.cell? ⟨w.heap.size, 2, none⟩ = some (.slice an n cn) := ha.cell 2
  replace CH := Lib.hid CH
  have hM := methSets
  have d1 : decide ((ns : Int) < 0) = false := by simp
  have d2 : decide (16 < (ns : Int)) = false := by simp; omega
  have hws : IntKind.i64.wrap ((sn : Int) + (ns : Int)) = ((sn + ns : Nat) : Int) := by rw [show (sn : Int) + (ns : Int) = ((sn + ns : Nat) : Int) by push_cast; rfl]; exact IntWalk.i64_in _ (by omega)
  replace hb1 := Lib.hid hb1
  replace ha := Lib.hid ha
  replace hgi := Lib.hid hgi
  replace hn := Lib.hid hn
  replace hsn := Lib.hid hsn
  replace hc := Lib.hid hc
  replace aok := Lib.hid aok
  replace hF := Lib.hid hF
  clear hA
  go_enter Try.func13, Try.ntmps13
  go_wp2_with fail
  refine (FS.out _ hb1.out).mono ?_
  rintro e w2 ⟨rfl, rfl⟩
  go_wp2_with fail
  refine (FS.out _ hb1.out).mono ?_
  rintro e w2 ⟨rfl, rfl⟩
  go_wp2_with fail
  refine CH.out.mono ?_
  rintro e w2 ⟨rfl, hb2⟩
  have ha2 := ha.out.below hb2
  have hb2' := Lib.hid (btrans hb1.out hb2)
  clear a0 a1 a2 hw1
  have a0 : w2.cell? ⟨w.heap.size, 0, none⟩ = some (.int .i64 sn) := ha2.cell 0
  have SB : Hid (∀ w', Below w2.heap.size w2 w' → w'.cell? ⟨w.heap.size, 0, none⟩ = some (.int .i64 sn)) := fun w' hb => bcell hb a0
  replace ha2 := Lib.hid ha2
  go_wp2
  go_region_held3 (fun w' => w'.cell? ⟨w.heap.size, 0, none⟩ = some (.int .i64 sn)) (first | exact a0 | exact SB.out _ (balloc (Below.refl _ _) _).drew) (first | (go_at_call 81; (first | (with_reducible refine (FS.out _ hb2'.out).mono ?_) | (with_reducible refine (FS.out _ hb2'.out.drew).mono ?_)); rintro e w5 ⟨rfl, rfl⟩))
  have hp0 : Hid (RowAt ((w2.alloc (.cells #[.iface TFp (.pointer (some ⟨f, 0, none⟩)), .int .i64 0, .slice none 0 0, .slice none 0 0, .int .i64 ((sn : Int) + (ns : Int))] TPr)).drew) w2.heap.size TPr [.iface TFp (.pointer (some ⟨f, 0, none⟩)), .int .i64 0, .slice none 0 0, .slice none 0 0, .int .i64 ((sn : Int) + (ns : Int))]) := (RowAt.new #[.iface TFp (.pointer (some ⟨f, 0, none⟩)), .int .i64 0, .slice none 0 0, .slice none 0 0, .int .i64 ((sn : Int) + (ns : Int))] rfl).drewN 1
  have hb3 : Hid (Below w2.heap.size w2 ((w2.alloc (.cells #[.iface TFp (.pointer (some ⟨f, 0, none⟩)), .int .i64 0, .slice none 0 0, .slice none 0 0, .int .i64 ((sn : Int) + (ns : Int))] TPr)).drew)) := (balloc (Below.refl _ _) _).drew
  have hpw : w.heap.size < w2.heap.size := ha2.out.lt
  generalize ((w2.alloc (.cells #[.iface TFp (.pointer (some ⟨f, 0, none⟩)), .int .i64 0, .slice none 0 0, .slice none 0 0, .int .i64 ((sn : Int) + (ns : Int))] TPr)).drew) = w3 at hp0 hb3 ⊢
  generalize w2.heap.size = p at hp0 hpw ⊢
  have hb3' := Lib.hid (btrans hb2'.out hb3.out)
  have ha3 := ha2.out.below hb3.out
  have a0 : w3.cell? ⟨w.heap.size, 0, none⟩ = some (.int .i64 sn) := ha3.cell 0
  have a1 : w3.cell? ⟨w.heap.size, 1, none⟩ = some (.slice ai gi ci) := ha3.cell 1
  replace ha3 := Lib.hid ha3
  have C1 := Lib.hid (fun wr (hb : Below w.heap.size w wr) => clone_ints wr ai gi ci A.init (HA.out wr hb).init hgi.out (by have := aok.out.initL; have := hgi.out; omega))
  go_upto_region 4 with (fail)
  go_cut [41] (fun _ wx => ∃ a4 c4 B, Hid (Nw w ai an a4 none gi ci n cn sn p B c4 0 f ((sn : Int) + (ns : Int)) A [] wx))
  case first =>
    go_region_law (first
      | (go_simp; go_at_call 28; (with_reducible refine (C1.out _ hb3'.out.drew).mono ?_); rintro e w4 ⟨a4, c4, rfl, ho4, hb4⟩; have B1 : Below w3.heap.size w3 w4 := ⟨hb4.os, hb4.tape, hb4.output, hb4.size, hb4.block⟩; have k0 : w4.cell? ⟨w.heap.size, 0, none⟩ = some (.int .i64 sn) := bcell B1 a0; have rp4 := hp0.out.below B1; have x1 : w4.frozen? ⟨p, 1, none⟩ = false := rp4.free 1; have x2 : w4.frozen? ⟨p, 2, none⟩ = false := rp4.free 2; have x3 : w4.frozen? ⟨p, 3, none⟩ = false := rp4.free 3; have y1 : w4.cell? ⟨p, 1, none⟩ = some (.int .i64 0) := rp4.cell 1; have y2 : w4.cell? ⟨p, 2, none⟩ = some (.slice none 0 0) := rp4.cell 2; have y3 : w4.cell? ⟨p, 3, none⟩ = some (.slice none 0 0) := rp4.cell 3; replace ho4 := Lib.hid ho4; replace rp4 := Lib.hid rp4))
    all_goals (
      go_wp2_with fail
      go_meet
      exact ⟨a4, c4, w4.heap.size, Nw.start hpw hb3'.out hp0.out ha3.out B1 ho4.out hgi.out⟩)
  case rest =>
    obtain ⟨a4, c4, B, st0⟩ := hcut
    have NN := Lib.hid (fun wr (hb : Below w.heap.size w wr) => (HA.out wr hb).nodes)
    clear C1 a0 a1 hb3' ha3 hp0 hb3 SB FS HA ha2 hws
    have a2 : wc.cell? ⟨w.heap.size, 2, none⟩ = some (.slice an n cn) := st0.out.arg.cell 2
    go_wp2
    go_loopw [45] (fun iv wr => ∃ (i ec : Nat) (ea : Option Addr) (S : List NR), i ≤ n ∧ iv = .int .i64 i ∧ Hid (nodesOf S = A.nodes.take i) ∧ Hid (S.length = i) ∧ Hid (Nw w ai an a4 ea gi ci n cn sn p B c4 ec f ((sn : Int) + (ns : Int)) A S wr)) (fun iv _ => n - (intOf iv).toNat)
    case atStart => exact ⟨0, 0, none, [], Nat.zero_le _, rfl, rfl, rfl, st0.out⟩
    case round =>
      obtain ⟨i, ec, ea, S, hi, rfl, hS1, hS2, st⟩ := hrel
      clear a2 st0
      by_cases hil : i < n
      · have hil2 : i < A.nodes.length := by have := hn.out; omega
        have hi2 : (i : Int) < (n : Int) := by omega
        obtain ⟨b, off, rfl, n0, n1, n2, ta, tc, n3, nt⟩ := (NN.out wr st.out.below).at i hil2
        have hlen : Hid (A.nodes[i].to.length * 8 ≤ 140737488355328) := by have := (aok.out.nodes _ (List.getElem_mem hil2)).2.2.2.1; show _ ≤ _; omega
        have hnext : Hid (∀ s : NR, s.2.2 = A.nodes[i] → nodesOf (S ++ [s]) = A.nodes.take (i + 1)) := fun s hs => by
          rw [nodesOf_snoc, hS1.out, hs, List.take_add_one, List.getElem?_eq_getElem hil2]
          rfl
        generalize A.nodes[i] = nd at n0 n1 n2 n3 nt hlen hnext
        obtain ⟨xn, xb, xi, xt⟩ := nd
        simp only at n0 n1 n2 n3 nt hlen hnext
        have CP := Lib.hid (fun w' (hb : Below wr.heap.size wr w') => clone_ints w' ta xt.length tc xt (nt.below hb) rfl hlen.out)
        clear nt hlen hS1
        go_upto_block 1 with (fail)
        go_cut [61] (fun _ wx => ∃ a3 c3 ea2 ec2, Hid (Nw w ai (some ⟨b, off, none⟩) a4 ea2 gi ci n cn sn p B c4 ec2 f ((sn : Int) + (ns : Int)) A (S ++ [(a3, c3, ⟨xn, xb, xi, xt⟩)]) wx))
        case first =>
          go_wp2_with fail
          have hAl : Hid (Below wr.heap.size wr (wr.alloc (.cells #[.int .u64 xn, .int .u64 xb, .int .u64 xi, .slice ta xt.length tc] TN))) := balloc (Below.refl _ _) _
          have hzA : Hid (RowAt (wr.alloc (.cells #[.int .u64 xn, .int .u64 xb, .int .u64 xi, .slice ta xt.length tc] TN)) wr.heap.size TN [.int .u64 xn, .int .u64 xb, .int .u64 xi, .slice ta xt.length tc]) := RowAt.new #[.int .u64 xn, .int .u64 xb, .int .u64 xi, .slice ta xt.length tc] rfl
          refine (CP.out _ hAl.out).mono ?_
          rintro e w4 ⟨a3, c3, rfl, ho4, hb4⟩
          have hz4 := hzA.out.below hb4
          have k3 : w4.cell? ⟨wr.heap.size, 3, none⟩ = some (.slice ta xt.length tc) := hz4.cell 3
          have kf3 : w4.frozen? ⟨wr.heap.size, 3, none⟩ = false := hz4.free 3
          replace ho4 := Lib.hid ho4
          replace hb4 := Lib.hid hb4
          replace hz4 := Lib.hid hz4
          go_wp2
          clear k3 kf3 n0 n1 n2 n3
          have B1 : Hid (Below wr.heap.size wr (w4.setCell ⟨wr.heap.size, 3, none⟩ (.slice a3 xt.length c3))) := bset (btrans hAl.out hb4.out) (Nat.le_refl _)
          have hz6 : Hid (RowAt (w4.setCell ⟨wr.heap.size, 3, none⟩ (.slice a3 xt.length c3)) wr.heap.size TN [.int .u64 xn, .int .u64 xb, .int .u64 xi, .slice a3 xt.length c3]) := hz4.out.set 3 _
          have hon : Hid (∀ j, OB a3 xt.length c3 = some j → wr.heap.size + 1 ≤ j) := fun j hj => by have := (ho4.out.lt2 hj).1; simp at this; omega
          have ho6 : Hid (OwnN .i64 (w4.setCell ⟨wr.heap.size, 3, none⟩ (.slice a3 xt.length c3)) B TyI a3 xt.length c3 xt) := by
            refine OwnN.keeps (S := fun j => j = wr.heap.size) (OwnN.base ho4.out ?_) (Keeps.set _ _ _ _ rfl) (fun j hj e => by have := hon.out j hj; omega)
            have := st.out.hB
            simp
            omega
          generalize w4.setCell ⟨wr.heap.size, 3, none⟩ (.slice a3 xt.length c3) = w6 at B1 hz6 ho6 ⊢
          have hr6 := st.out.row.below B1.out
          have p3 : w6.cell? ⟨p, 1 + 2, none⟩ = some (.slice ea S.length ec) := hr6.cell 3
          have hpl : p < w6.heap.size := hr6.lt
          have hzl : wr.heap.size < w6.heap.size := hz6.out.lt
          have z0 : w6.cell? ⟨wr.heap.size, 0, none⟩ = some (.int .u64 xn) := hz6.out.cell 0
          have z1 : w6.cell? ⟨wr.heap.size, 1, none⟩ = some (.int .u64 xb) := hz6.out.cell 1
          have z2 : w6.cell? ⟨wr.heap.size, 2, none⟩ = some (.int .u64 xi) := hz6.out.cell 2
          have z3 : w6.cell? ⟨wr.heap.size, 3, none⟩ = some (.slice a3 xt.length c3) := hz6.out.cell 3
          have OW : Hid (OwnR ((w6.alloc (.cells #[.int .u64 xn, .int .u64 xb, .int .u64 xi, .slice a3 xt.length c3] TN)).drew) B TN 4 ea S.length ec (ncells S)) := ((st.out.es.below B1.out).below (balloc (Below.refl _ _) (.cells #[.int .u64 xn, .int .u64 xb, .int .u64 xi, .slice a3 xt.length c3] TN)).drew).own
          have nc : Hid (∀ j u, [Value.int .u64 xn, .int .u64 xb, .int .u64 xi, .slice a3 xt.length c3][j]? = some u → ((w6.alloc (.cells #[.int .u64 xn, .int .u64 xb, .int .u64 xi, .slice a3 xt.length c3] TN)).drew).cell? ((⟨w6.heap.size, 0, none⟩ : Addr).add j) = some u) := new_cells w6 #[.int .u64 xn, .int .u64 xb, .int .u64 xi, .slice a3 xt.length c3] TN rfl
          have oc : Hid (∀ u ∈ [Value.int .u64 xn, .int .u64 xb, .int .u64 xi, .slice a3 xt.length c3], u.oneCell' = true) := fun u hu => by simp at hu; rcases hu with rfl | rfl | rfl | rfl <;> rfl
          have n5 : Hid (S.length + 1 ≤ maxLen) := by show _ ≤ _; unfold maxLen; have := hS2.out; omega
          have y5 : Hid ((S.length + 1) * 48 ≤ 140737488355328) := by show _ ≤ _; have := hS2.out; omega
          have hAA : Hid (Below w6.heap.size w6 ((w6.alloc (.cells #[.int .u64 xn, .int .u64 xb, .int .u64 xi, .slice a3 xt.length c3] TN)).drew)) := (balloc (Below.refl _ _) _).drew
          have hBA : Hid (B ≤ ((w6.alloc (.cells #[.int .u64 xn, .int .u64 xb, .int .u64 xi, .slice a3 xt.length c3] TN)).drew).heap.size) := by
            have := st.out.hB
            have := B1.out.size
            have := hAA.out.size
            show _ ≤ _
            omega
          have T3 : Hid (∀ (w5 : World), ((w6.alloc (.cells #[.int .u64 xn, .int .u64 xb, .int .u64 xi, .slice a3 xt.length c3] TN)).drew).grownBy w5 (OB ea S.length ec) → w5.frozen? ⟨p, 1 + 2, none⟩ = false ∧ w5.cell? ⟨p, 1 + 2, none⟩ = some (.slice ea S.length ec)) := fun w5 hg => by
            have hk1 : Keeps wr w5 (fun j => OB ea S.length ec = some j) := (Keeps.of_below (S := fun j => OB ea S.length ec = some j) (btrans B1.out hAA.out)).trans (Keeps.of_grown (S := fun j => OB ea S.length ec = some j) hg (fun j e => e)) (fun _ _ h => h)
            have hr := st.out.row.keeps hk1 (fun e => by have := (OwnR.lt st.out.es.own e).1; have := st.out.hp; omega)
            exact ⟨hr.free 3, hr.cell 3⟩
          replace hr6 := Lib.hid hr6
          go_region_law (first
            | (refine step_appR ?_ (.tmp 58) (.tmp 60) 28 TN (.agg #[.int .u64 0, .int .u64 0, .int .u64 0, .slice none 0 0]) 4 48 ?_ Try.underlying28 infoN rfl (by decide) B ea S.length ec (ncells S) ?_ OW.out w6.heap.size 1 [.int .u64 xn, .int .u64 xb, .int .u64 xi, .slice a3 xt.length c3] ?_ rfl nc.out oc.out n5.out y5.out hBA.out ?_; exact rfl; exact rfl; exact rfl; exact rfl; intro a6 c6 w5 ho5 hg5 hat5; obtain ⟨f5, d5⟩ := T3.out w5 hg5; replace ho5 := Lib.hid ho5; replace hg5 := Lib.hid hg5; replace hat5 := Lib.hid hat5))
          all_goals (
            go_wp2_with fail
            go_meet
            exact ⟨a3, c3, a6, c6, Nw.app (s := (a3, c3, ⟨xn, xb, xi, xt⟩)) st.out B1.out ho6.out (fun j hj => by have := hon.out j hj; omega) hAA.out ho5.out hg5.out hat5.out⟩)
        case rest =>
          obtain ⟨a3, c3, ea2, ec2, st2⟩ := hcut
          have h2 : Hid ((S ++ [(a3, c3, (⟨xn, xb, xi, xt⟩ : AN))]).length = i + 1) := by show _ = _; rw [List.length_append, hS2.out]; rfl
          have h1 := Lib.hid (hnext.out (a3, c3, ⟨xn, xb, xi, xt⟩) rfl)
          clear st hS2 hnext CP n0 n1 n2 n3
          go_wp2
          go_roundw
          case rel => exact ⟨i + 1, ec2, ea2, _, by omega, by go_num, h1.out, h2.out, st2.out⟩
          case measure => simp [intOf]; omega
      · obtain rfl : i = n := by omega
        have st2 := Lib.hid st.out
        have hS3 : Hid (nodesOf S = A.nodes) := by show _ = _; rw [hS1.out, hn.out, List.take_length]
        clear st
        go_wp2
        go_ret
        refine ⟨p, rfl, st2.out.below, fun sets hns hinb hsrc ok => ⟨f, a4, ea, c4, ec, ?_, ?_, ⟨rfl, rfl, st2.out.i1, ?_⟩, hsrc, hc.out, ok, aok.out⟩⟩
        · have h1 := st2.out.row
          rw [hgi.out] at h1
          have h2 : S.length = A.nodes.length := by rw [hS2.out, hn.out]
          rw [h2] at h1
          have h3 : ((sn : Int) + (ns : Int)) = ((allS sets A : Nat) : Int) := by unfold allS; rw [hsn.out, ← hns]; push_cast; omega
          rw [h3] at h1
          rw [hsn.out]
          exact h1
        · rw [← hns, ← hinb]
          exact hF.out.below st2.out.below
        · rw [← hS3.out]
          exact st2.out.es.nodes
def NewMade (G : GR) (sets : List (List Bool)) (A : AU) (w : World) (e : Ending) (w' : World) : Prop :=
  Below w.heap.size w w' ∧ ((newB G sets A = true ∧ ∃ p, e = .returned (.pointer (some ⟨p, 0, none⟩)) ∧ PrAt w' p G sets A) ∨ (newB G sets A = false ∧ e = .returned (.pointer none)))
/-- New, of a source that Graph made -/
theorem new_any (w : World) (ai an : Option Addr) (ci cn f : Nat) (G : GR) (sets : List (List Bool)) (A : AU) (hF : FxAt w f G (inbits G.edges.length sets) sets.length) (hs : srcB G sets = true) (ok : GOk G) (hA : AuAt w ai A.init.length an A.nodes.length A) (aok : AuOk A) :
    Calls Try.prog 13 #[.iface TFp (.pointer (some ⟨f, 0, none⟩)), auv ai an ci cn A] w (NewMade G sets A w) := by
  have h16 := (src_sets hs).2.1
  by_cases hc : chk A = 0
  · refine (new_yes w ai an ci cn f G _ _ A hF h16 hA aok hc).mono ?_
    rintro e w' ⟨p, rfl, hb, hp⟩
    exact ⟨hb, .inl ⟨by unfold newB; rw [hs, decide_eq_true hc]; rfl, p, rfl, hp sets rfl rfl hs ok⟩⟩
  · refine (new_no w ai an ci cn f G _ _ A hF h16 hA aok hc).mono ?_
    rintro e w' ⟨rfl, hb⟩
    exact ⟨hb, .inr ⟨by unfold newB; rw [decide_eq_false hc, Bool.and_false], rfl⟩⟩
end Go.Proofs.Ytmlbjfaofppikaa
