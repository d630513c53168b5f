/- A pair's number. Conditions: the bound on how many. -/
import Derived.Test.YtefplklkhcpchaaPairMap
import Derived.BigRegion
namespace Go.Proofs.Ytefplklkhcpchaa
open Go.RowKit

abbrev TM : Nat := 45
abbrev TP : Nat := 49
theorem infoP : (Try.prog.info? TP).map (fun i => (i.zero, i.size, i.bytes)) = some (some (.agg #[.int .i64 0, .int .i64 0]), 2, 16) := by kernel_rfl

/-- a maker in memory -/
structure MK (w : World) (B M mb : Nat) (pa : Option Addr) (pc : Nat) (s : Int) (ai : Option Addr) (ni ci : Nat) (an : Option Addr) (nn cn : Nat) (l : List PR) : Prop where
  row : RowAt w M TM [.int .i64 s, .slice ai ni ci, .slice an nn cn, .map (some mb), .slice pa l.length pc]
  map : PMap w mb l
  own : OwnP w B TP pa l.length pc l
  hM : B ≤ M
  hmb : B ≤ mb
  ne : mb ≠ M
  nep : Hid (∀ j, (Value.slice pa l.length pc).ownBlock = some j → j ≠ M ∧ j ≠ mb)
/-- the blocks that a maker may turn -/
def Hot (M mb : Nat) (pv : Value) (j : Nat) : Prop := j = M ∨ j = mb ∨ pv.ownBlock = some j
theorem MK.keeps {w w' : World} {B M mb : Nat} {pa : Option Addr} {pc : Nat} {s : Int} {ai : Option Addr} {ni ci : Nat} {an : Option Addr} {nn cn : Nat} {l : List PR} {S : Nat → Prop} (h : MK w B M mb pa pc s ai ni ci an nn cn l) (hk : Keeps w w' S) (hn : ∀ j, Hot M mb (.slice pa l.length pc) j → ¬ S j) : MK w' B M mb pa pc s ai ni ci an nn cn l :=
  ⟨h.row.keeps hk (hn _ (.inl rfl)), h.map.keeps hk (hn _ (.inr (.inl rfl))), OwnR.keeps h.own hk (fun j hj => hn j (.inr (.inr hj))), h.hM, h.hmb, h.ne, h.nep⟩
theorem MK.below {w w' : World} {B M mb : Nat} {pa : Option Addr} {pc : Nat} {s : Int} {ai : Option Addr} {ni ci : Nat} {an : Option Addr} {nn cn : Nat} {l : List PR} (h : MK w B M mb pa pc s ai ni ci an nn cn l) (hb : Below w.heap.size w w') : MK w' B M mb pa pc s ai ni ci an nn cn l :=
  h.keeps (S := fun _ => False) (Keeps.of_below hb) (fun _ _ h => h)

/-- what a call gives that numbers pairs -/
def Numbered (w : World) (B M mb : Nat) (pa : Option Addr) (pc : Nat) (s : Int) (ai : Option Addr) (ni ci : Nat) (an : Option Addr) (nn cn : Nat) (l l' : List PR) (w' : World) : Prop :=
  ∃ pa' pc', MK w' B M mb pa' pc' s ai ni ci an nn cn l' ∧ Keeps w w' (Hot M mb (.slice pa l.length pc)) ∧ Hid (∀ j, (Value.slice pa' l'.length pc').ownBlock = some j → (Value.slice pa l.length pc).ownBlock = some j ∨ w.heap.size ≤ j)

set_option maxHeartbeats 4000000 in
theorem number_any (w : World) (B M mb : Nat) (pa : Option Addr) (pc : Nat) (s : Int) (ai : Option Addr) (ni ci : Nat) (an : Option Addr) (nn cn : Nat) (l : List PR) (h : MK w B M mb pa pc s ai ni ci an nn cn l) (hB : B ≤ w.heap.size) (p : PR) (hp : okP p) (hl : l.length ≤ 100000) :
    Calls Try.prog 29 #[.pointer (some ⟨M, 0, none⟩), .agg #[.int .i64 p.1, .int .i64 p.2]] w fun e w' => e = .returned (.int .i64 (numP l p).2) ∧ Numbered w B M mb pa pc s ai ni ci an nn cn l (numP l p).1 w' := by
  obtain ⟨q, t⟩ := p
  have hmbw := Lib.hid h.map.lt
  have hW : ∃ w1, w1 = w.alloc (.cells #[.int .i64 q, .int .i64 t] TP) := ⟨_, rfl⟩
  obtain ⟨w1, hw1⟩ := hW
  have hb1 : Below w.heap.size w w1 := by rw [hw1]; exact balloc (Below.refl _ _) _
  have h1 : MK w1 B M mb pa pc s ai ni ci an nn cn l := h.below hb1
  have r3 : RowAt w1 w.heap.size TP [.int .i64 q, .int .i64 t] := by rw [hw1]; exact RowAt.new #[.int .i64 q, .int .i64 t] rfl
  have hlk := fun k => (show PMap (w1.drewN k) mb l from h1.map.keep rfl).look hp
  have m1 : w1.cell? ⟨M, 1 + 2, none⟩ = some (.map (some mb)) := h1.row.cell 3
  have m2 : w1.cell? ⟨M, 4, none⟩ = some (.slice pa l.length pc) := h1.row.cell 4
  have b0 : w1.cell? ⟨w.heap.size, 0, none⟩ = some (.int .i64 q) := r3.cell 0
  have b1 : w1.cell? ⟨w.heap.size, 1, none⟩ = some (.int .i64 t) := r3.cell 1
  simp only [pval] at hlk
  have HW := Lib.hid hw1
  clear hw1
  by_cases hm : (q, t) ∈ l
  · simp only [if_pos hm, decide_eq_true hm] at hlk
    have hr : Hid (numP l (q, t) = (l, l.idxOf (q, t))) := by unfold Hid numP; rw [if_pos hm]
    rw [hr.out]
    generalize l.idxOf (q, t) = n at hlk
    have H1 := Lib.hid h1
    replace hb1 := Lib.hid hb1
    clear hr hm h h1 r3
    go_enter Try.func29, Try.ntmps29
    go_wp2
    rw [← HW.out]
    clear HW
    go_quiet (fail)
    go_wp2
    go_ret
    have hk : Keeps w1 (w1.drewN nq) (Hot M mb (.slice pa l.length pc)) := Keeps.drewN _ _ _
    exact ⟨rfl, pa, pc, H1.out.below (bdrewN (Below.refl _ _) _), (Keeps.of_below hb1.out).trans hk (fun _ _ h => h), fun j hj => .inl hj⟩
  · simp only [if_neg hm, decide_eq_false hm] at hlk
    have hr : Hid (numP l (q, t) = (l ++ [(q, t)], l.length)) := by unfold Hid numP; rw [if_neg hm]
    rw [hr.out]
    have H1 := Lib.hid h1
    have R3 := Lib.hid r3
    replace hb1 := Lib.hid hb1
    have hm' := Lib.hid hm
    clear hr hm h h1 r3
    go_enter Try.func29, Try.ntmps29
    go_wp2
    rw [← HW.out]
    clear HW
    go_quiet (fail)
    go_wp2
    have hq2 := Below.refl w1.heap.size w1
    replace hq2 := bdrewN hq2 nq
    have K2 : Keeps w (w1.drewN nq) (Hot M mb (.slice pa l.length pc)) := Keeps.of_below (btrans hb1.out hq2)
    have h2 := H1.out.below hq2
    have r2 := R3.out.below hq2
    generalize w1.drewN nq = w2 at h2 r2 K2 ⊢
    clear hq2 m1 m2 b0 b1 hlk H1 R3
    have hmp : PMap w2.drew mb l := h2.map.keep rfl
    obtain ⟨w3, hrun3, hm3, hg3⟩ := hmp.put hp hm'.out (by omega)
    have hg3' : w2.grownBy w3 (some mb) := ⟨hg3.os, hg3.tape, hg3.output, hg3.size, hg3.block⟩
    have hmblt := h2.map.lt
    have m1 : w2.cell? ⟨M, 1 + 2, none⟩ = some (.map (some mb)) := h2.row.cell 3
    have b0 : w2.cell? ⟨w.heap.size, 0, none⟩ = some (.int .i64 q) := r2.cell 0
    have b1 : w2.cell? ⟨w.heap.size, 1, none⟩ = some (.int .i64 t) := r2.cell 1
    have hmw : mb < w.heap.size := hmbw.out
    have rM3 := h2.row.grow hg3' (fun e => h2.ne (by cases e; rfl))
    have rB3 := r2.grow hg3' (fun e => by cases e; omega)
    have hnb := h2.nep
    have own3 := OwnR.keeps (S := fun j => j = mb) h2.own (Keeps.of_grown hg3' (fun j e => by cases e; rfl)) (fun j hj => (hnb.out j hj).2)
    have K3 := K2.trans (Keeps.of_grown (S := Hot M mb (.slice pa l.length pc)) hg3' (fun j e => by cases e; exact .inr (.inl rfl))) (fun _ _ h => h)
    have h2M := h2.hM
    have h2m := h2.hmb
    have h2n := h2.ne
    replace hm3 := Lib.hid hm3
    simp only [pval] at hrun3
    replace hg3 := Lib.hid hg3
    replace K2 := Lib.hid K2
    replace rM3 := Lib.hid rM3
    replace rB3 := Lib.hid rB3
    replace own3 := Lib.hid own3
    replace K3 := Lib.hid K3
    replace hmp := Lib.hid hmp
    replace h2 := Lib.hid h2
    replace r2 := Lib.hid r2
    clear hg3'
    go_region
    clear hrun3 m1 b0 b1 h2 r2 K2 hmp
    go_wp2
    have own5 : Hid (OwnR ((w3.alloc (.cells #[.int .i64 q, .int .i64 t] TP)).drew) B TP 2 pa l.length pc (pcells l)) := OwnR.alloc own3.out _
    have hB3 : Hid (B ≤ ((w3.alloc (.cells #[.int .i64 q, .int .i64 t] TP)).drew).heap.size) := by have := Nat.le_trans hB K3.out.size; show _ ≤ _; simp; omega
    have nc5 : Hid (∀ j u, [Value.int .i64 q, .int .i64 t][j]? = some u → ((w3.alloc (.cells #[.int .i64 q, .int .i64 t] TP)).drew).cell? ((⟨w3.heap.size, 0, none⟩ : Addr).add j) = some u) := new_cells w3 #[.int .i64 q, .int .i64 t] TP rfl
    have oc5 : Hid (∀ u ∈ [Value.int .i64 q, .int .i64 t], u.oneCell' = true) := by intro u hu; simp at hu; rcases hu with rfl | rfl <;> rfl
    have n5 : Hid (l.length + 1 ≤ maxLen) := by show _ ≤ _; unfold maxLen; omega
    have y5 : Hid ((l.length + 1) * 16 ≤ 140737488355328) := by show _ ≤ _; omega
    have m2 : w3.cell? ⟨M, 4, none⟩ = some (.slice pa l.length pc) := rM3.out.cell 4
    have b0 : w3.cell? ⟨w.heap.size, 0, none⟩ = some (.int .i64 q) := rB3.out.cell 0
    have b1 : w3.cell? ⟨w.heap.size, 1, none⟩ = some (.int .i64 t) := rB3.out.cell 1
    have hMl : M < w3.heap.size := rM3.out.lt
    have hBl : w.heap.size < w3.heap.size := rB3.out.lt
    have T4 : ∀ w4, ((w3.alloc (.cells #[.int .i64 q, .int .i64 t] TP)).drew).grownBy w4 (Value.slice pa l.length pc).ownBlock → Keeps w3 w4 (Hot M mb (.slice pa l.length pc)) ∧ RowAt w4 M TM [.int .i64 s, .slice ai ni ci, .slice an nn cn, .map (some mb), .slice pa l.length pc] ∧ PMap w4 mb (l ++ [(q, t)]) := by
      intro w4 hg4
      have hg0 : (w3.alloc (.cells #[.int .i64 q, .int .i64 t] TP)).grownBy w4 (Value.slice pa l.length pc).ownBlock := ⟨hg4.os, hg4.tape, hg4.output, hg4.size, hg4.block⟩
      refine ⟨(Keeps.alloc w3 _ (Hot M mb (.slice pa l.length pc))).trans (Keeps.of_grown (S := Hot M mb (.slice pa l.length pc)) hg0 (fun j e => .inr (.inr e))) (fun _ _ h => h), (rM3.out.alloc _).grow hg0 (fun e => (hnb.out M e).1 rfl), ?_⟩
      exact (hm3.out.keeps (Keeps.alloc w3 (.cells #[.int .i64 q, .int .i64 t] TP) (fun _ => False)) (fun h => h)).keeps (Keeps.of_grown (S := fun j => (Value.slice pa l.length pc).ownBlock = some j) hg0 (fun j e => e)) (fun e => (hnb.out mb e).2 rfl)
    replace T4 := Lib.hid T4
    go_region_law (first
      | (refine step_appR ?_ (.tmp 33) (.tmp 35) 43 TP (.agg #[.int .i64 0, .int .i64 0]) 2 16 ?_ Try.underlying43 infoP rfl (by decide) B pa l.length pc (pcells l) ?_ own5.out w3.heap.size 1 [.int .i64 q, .int .i64 t] ?_ rfl nc5.out oc5.out n5.out y5.out hB3.out ?_; exact rfl; exact rfl; exact rfl; exact rfl; intro pa' pc' w4 hown4 hg4 hat4; obtain ⟨hk4, rM4, hm4⟩ := T4.out w4 hg4; have m4 : w4.cell? ⟨M, 4, none⟩ = some (.slice pa l.length pc) := rM4.cell 4; have f4 : w4.frozen? ⟨M, 4, none⟩ = false := rM4.free 4; replace hat4 := Lib.hid hat4; replace hown4 := Lib.hid hown4; replace hg4 := Lib.hid hg4; replace hk4 := Lib.hid hk4; replace rM4 := Lib.hid rM4; replace hm4 := Lib.hid hm4))
    all_goals (
      go_wp2
      go_ret
      have e : (l ++ [(q, t)]).length = l.length + 1 := by simp
      have hfr : ∀ j, (Value.slice pa' (l.length + 1) pc').ownBlock = some j → (Value.slice pa l.length pc).ownBlock = some j ∨ w3.heap.size ≤ j := by
        intro j hj
        rcases hat4.out with h | h
        · exact .inl (by rw [← h]; exact hj)
        · rw [h] at hj
          simp at hj
          exact .inr (by omega)
      have hnM : ∀ j, (Value.slice pa' (l.length + 1) pc').ownBlock = some j → j ≠ M ∧ j ≠ mb := by
        intro j hj
        rcases hfr j hj with h | h
        · exact hnb.out j h
        · have := hm3.out.lt
          exact ⟨by omega, by omega⟩
      have KS := Keeps.set w4 M 4 (.slice pa' (l.length + 1) pc') (S := Hot M mb (.slice pa l.length pc)) (.inl rfl)
      refine ⟨rfl, pa', pc', ⟨?_, ?_, ?_, h2M, h2m, h2n, ?_⟩, (K3.out.trans hk4.out (fun _ _ h => h)).trans KS (fun _ _ h => h), ?_⟩
      · rw [e]; exact rM4.out.set 4 _
      · exact hm4.out.keep (Below.heap_setCell _ _ _ _ (by simpa using fun e => h2n e))
      · show OwnR _ _ _ _ _ _ _ _
        rw [e, pcells_snoc]
        exact OwnR.keeps (S := fun j => j = M) hown4.out (Keeps.set w4 M 4 _ rfl) (fun j hj => (hnM j hj).1)
      · rw [e]; exact hnM
      · rw [e]
        intro j hj
        rcases hfr j hj with h | h
        · exact .inl h
        · exact .inr (by have := K3.out.size; omega))
end Go.Proofs.Ytefplklkhcpchaa
