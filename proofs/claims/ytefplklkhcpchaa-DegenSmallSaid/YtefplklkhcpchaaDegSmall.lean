/- The walk of layer degen's law on how small what is made is. No conditions but the form's reach. -/
import Derived.Test.YtefplklkhcpchaaDegNone
import Derived.Test.YtefplklkhcpchaaDegSmallPlain
import Derived.Test.YtefplklkhcpchaaIntSet
import Derived.Test.YtefplklkhcpchaaQueue
import Derived.Deep.LoopGhost
namespace Go.Proofs.Ytefplklkhcpchaa
open Go.RowKit

abbrev TMB : Nat := 37
theorem infoInt : (Try.prog.info? 3).map (fun i => (i.zero, i.size, i.bytes)) = some (some (.int .i64 0), 1, 8) := by kernel_rfl
/-- the state while all nodes are gone through -/
structure GoSt (w3 wr : World) (X mb B : Nat) (s2 : Int) (b0 bo : Option Addr) (d0 d1 : Nat) (ini : List Int) (ns : List AN) (qa : Option Addr) (qc : Nat) (has todo : List Int) : Prop where
  low : Below w3.heap.size w3 wr
  row : RowAt wr X TA [.int .i64 s2, .slice b0 ini.length d0, .slice bo ns.length d1]
  map : SMap wr mb has
  q : OwnQ wr B qa todo.length qc todo
  hX : w3.heap.size ≤ X ∧ X < mb ∧ mb < B
  hB : B ≤ wr.heap.size
section
variable {w3 wr w' : World} {X mb B : Nat} {s2 : Int} {b0 bo : Option Addr} {d0 d1 : Nat} {ini : List Int} {ns : List AN} {qa : Option Addr} {qc : Nat} {has todo : List Int}
theorem GoSt.below (h : GoSt w3 wr X mb B s2 b0 bo d0 d1 ini ns qa qc has todo) (hb : Below wr.heap.size wr w') : GoSt w3 w' X mb B s2 b0 bo d0 d1 ini ns qa qc has todo := by
  have hk : Keeps wr w' (fun _ => False) := Keeps.of_below hb
  have := hb.size
  have := h.hB
  exact ⟨btrans h.low hb, h.row.below hb, h.map.keeps hk (fun h => h), h.q.below hb, h.hX, by omega⟩
theorem GoSt.tail {x : Int} (h : GoSt w3 wr X mb B s2 b0 bo d0 d1 ini ns qa qc has (x :: todo)) : GoSt w3 wr X mb B s2 b0 bo d0 d1 ini ns (cutA qa qc 1 1) (qc - 1) has todo := by
  have h1 := h.q.tail
  simp only [List.length_cons, Nat.add_sub_cancel] at h1
  exact ⟨h.low, h.row, h.map, h1, h.hX, h.hB⟩
theorem GoSt.put {x : Int} (h : GoSt w3 wr X mb B s2 b0 bo d0 d1 ini ns qa qc has todo) (hm : SMap w' mb (has ++ [x])) (hg : wr.grownBy w' (some mb)) : GoSt w3 w' X mb B s2 b0 bo d0 d1 ini ns qa qc (has ++ [x]) todo := by
  have hk : Keeps wr w' (fun j => j = mb) := Keeps.of_grown hg (fun j e => by cases e; rfl)
  obtain ⟨h1, h2, h3⟩ := h.hX
  have := hk.size
  have := h.hB
  exact ⟨hk.below h.low (fun j e => by omega), h.row.keeps hk (by omega), hm, h.q.keeps hk (fun j hj _ _ e => by omega), h.hX, by omega⟩
theorem GoSt.app {todo2 : List Int} {qa2 : Option Addr} {qc2 : Nat} (h : GoSt w3 wr X mb B s2 b0 bo d0 d1 ini ns qa qc has todo) (hq : OwnQ w' B qa2 todo2.length qc2 todo2) (hk : Keeps wr w' (fun j => 0 < qc ∧ (Value.slice qa todo.length qc).ownBlock = some j)) : GoSt w3 w' X mb B s2 b0 bo d0 d1 ini ns qa2 qc2 has todo2 := by
  obtain ⟨h1, h2, h3⟩ := h.hX
  have := hk.size
  have := h.hB
  exact ⟨hk.below h.low (fun j ⟨e, hj⟩ => by have := (h.q.blk e hj).1; omega), h.row.keeps hk (fun ⟨e, hj⟩ => by have := (h.q.blk e hj).1; omega), h.map.keeps hk (fun ⟨e, hj⟩ => by have := (h.q.blk e hj).1; omega), hq, h.hX, by omega⟩
end

set_option maxHeartbeats 8000000 in
theorem degenSmall_walk (W : World) (c : Array Value) (A : AU) (h : rAU W c.toList A) :
    Calls Try.prog 5 #[.agg c] W fun e w' => e = .returned (.bool true) ∧ Below W.heap.size W w' := by
  obtain ⟨ai, ci, an, cn, hcs, hA, ok, _, _⟩ := AuAt.of_rAU h
  obtain rfl : c = #[.int .i64 A.sets, .slice ai A.init.length ci, .slice an A.nodes.length cn] := by
    cases c; simpa using hcs
  clear h hcs
  have hb0 : Below W.heap.size W (W.alloc (.cells #[.int .i64 A.sets, .slice ai A.init.length ci, .slice an A.nodes.length cn] TA)) := balloc (Below.refl _ _) _
  have FA := far_any _ ai an ci cn A (hA.below hb0) ok
  have r1 := Lib.hid (RowAt.new (w := W) (T := TA) #[.int .i64 A.sets, .slice ai A.init.length ci, .slice an A.nodes.length cn] rfl)
  cases hf : farB A with
  | true =>
    rw [hf] at FA
    replace FA := Lib.hid FA
    clear hf ok hA
    go_enter Try.func5, Try.ntmps5
    go_wp2_with fail
    refine FA.out.mono ?_
    rintro e w1 ⟨rfl, hb1⟩
    go_wp2_with fail
    refine (lives_true _).mono ?_
    rintro e w2 ⟨rfl, hb2⟩
    go_wp2
    go_ret
    exact ⟨rfl, btrans (btrans hb0 hb1) hb2⟩
  | false =>
    rw [hf] at FA
    obtain ⟨f1, f2, f3⟩ := far_no hf
    have ONE := fun w' (hb : Below W.heap.size W w') => one_any w' ai an ci cn A (hA.below hb) ok ⟨by omega, fun x hx => Nat.le_trans (f3 x hx) (by omega)⟩
    have hag : ∀ B, oneP A = (0, B) → ∃ s : Nat, A.sets = (s : Int) ∧ s ≤ 16 ∧ Small A B s ∧ AuOk B ∧ B.init.length ≤ 2000 ∧ ∀ x ∈ B.nodes, x.to.length ≤ 2000 := fun B hB => by
      have hcA : chk A = 0 := by
        have := congrArg Prod.fst hB
        unfold oneP at this
        by_cases h : chk A ≠ 0
        · rw [if_pos h] at this; exact this
        · simpa using h
      obtain ⟨_, g2, g3, _⟩ := chk_good hcA
      exact ⟨A.sets.toNat, by omega, by omega, one_small2 ok (by omega) hB⟩
    generalize oneP A = q at ONE hag
    obtain ⟨why, B⟩ := q
    by_cases hw : why = 0
    · subst hw
      obtain ⟨sn, hsn, hs16, hsm, okB, hl1, hl2⟩ := hag B rfl
      obtain ⟨s, init, nodes⟩ := A
      simp only at FA ONE r1 f1 f2 hb0 hsn
      obtain ⟨s2, ini, ns⟩ := B
      obtain rfl : s2 = 1 := hsm.sets
      have hlen := hsm.len
      simp only at hlen hl1 hl2
      have hinn : Hid (∀ x ∈ ns, x.inn ≤ 1) := hsm.inn
      have hsrc : Hid (∀ j : Nat, j < ns.length → (j : Int) ∈ ini ∨ ∃ i, i < j ∧ (j : Int) ∈ (ns.getD i ANZ).to) := hsm.src
      have hcB := hsm.chk
      obtain ⟨g1, _, _, g4, g5⟩ := chk_good hcB
      simp only at g1 g4 g5
      have CKB := Lib.hid (fun w' a0 c0 ao co (h : AuAt w' a0 ini.length ao ns.length ⟨1, ini, ns⟩) => rcheck_any w' a0 ao c0 co ⟨1, ini, ns⟩ h okB)
      rw [hcB] at CKB
      simp only at CKB
      obtain ⟨M, hM⟩ : ∃ M, M = max sn 1 := ⟨_, rfl⟩
      obtain ⟨p, hp⟩ : ∃ p, p = nodes.length * M := ⟨_, rfl⟩
      rw [← hM, ← hp] at hlen
      have hms : p ≤ 40 * 16 := by rw [hp]; exact Nat.mul_le_mul (by omega) (by omega)
      have hif : (if s < 1 then (1 : Int) else s) = (M : Int) := by
        rw [hM, hsn]
        by_cases h1 : (sn : Int) < 1
        · rw [if_pos h1]; omega
        · rw [if_neg h1]; omega
      have hwr : IntKind.i64.wrap ((nodes.length : Int) * (M : Int)) = (p : Int) := by
        have e : (nodes.length : Int) * (M : Int) = (p : Int) := by rw [hp]; push_cast; rfl
        rw [e]
        exact IntWalk.i64_in _ (by omega)
      have hd : decide ((p : Int) < (ns.length : Int)) = false := by simp only [decide_eq_false_iff_not]; omega
      have hd2 : decide (p < ns.length) = false := by simp only [decide_eq_false_iff_not]; omega
      replace hp := Lib.hid hp
      replace hM := Lib.hid hM
      replace hsn := Lib.hid hsn
      replace FA := Lib.hid FA
      replace ONE := Lib.hid ONE
      replace g4 := Lib.hid g4
      replace g5 := Lib.hid g5
      replace hl1 := Lib.hid hl1
      replace hl2 := Lib.hid hl2
      replace g1 := Lib.hid g1
      have hmm := @run_makeMap Try.prog
      clear hf ok hA f1 f2 f3 hag hsm hcB okB hms hlen hs16
      go_enter Try.func5, Try.ntmps5
      go_wp2_with fail
      refine FA.out.mono ?_
      rintro e w1 ⟨rfl, hb1⟩
      have s1 := r1.out.below hb1
      have hbw1 := btrans hb0 hb1
      have a0 : w1.cell? ⟨W.heap.size, 0, none⟩ = some (.int .i64 s) := s1.cell 0
      have a1 : w1.cell? ⟨W.heap.size, 1, none⟩ = some (.slice ai init.length ci) := s1.cell 1
      have a2 : w1.cell? ⟨W.heap.size, 2, none⟩ = some (.slice an nodes.length cn) := s1.cell 2
      clear FA hb1
      go_wp2_with fail
      refine (ONE.out _ hbw1).mono ?_
      rintro e w3 ⟨b0, d0, bo, d1, rfl, hI, hN, hb3⟩
      try simp only at hI hN
      have hbw3 := Lib.hid (btrans hbw1 hb3)
      have s3 := s1.below hb3
      clear ONE hb3 a0 a1 a2 s1 hbw1
      have hbA : Below w3.heap.size w3 (w3.alloc (.cells #[.int .i64 1, .slice b0 ini.length d0, .slice bo ns.length d1] TA)) := balloc (Below.refl _ _) _
      have rT := RowAt.new (w := w3) (T := TA) #[.int .i64 1, .slice b0 ini.length d0, .slice bo ns.length d1] rfl
      have s4 := s3.below hbA
      have a0 : (w3.alloc (.cells #[.int .i64 1, .slice b0 ini.length d0, .slice bo ns.length d1] TA)).cell? ⟨W.heap.size, 0, none⟩ = some (.int .i64 s) := s4.cell 0
      have a2 : (w3.alloc (.cells #[.int .i64 1, .slice b0 ini.length d0, .slice bo ns.length d1] TA)).cell? ⟨W.heap.size, 2, none⟩ = some (.slice an nodes.length cn) := s4.cell 2
      have C2 := Lib.hid (CKB.out _ b0 d0 bo d1 (⟨rfl, rfl, hI.below hbA, hN.below hbA⟩ : AuAt (w3.alloc (.cells #[.int .i64 1, .slice b0 ini.length d0, .slice bo ns.length d1] TA)) b0 ini.length bo ns.length ⟨1, ini, ns⟩))
      have hzW : W.heap.size < w3.heap.size := s3.lt
      replace hbA := Lib.hid hbA
      replace rT := Lib.hid rT
      replace s3 := Lib.hid s3
      replace hI := Lib.hid hI
      replace hN := Lib.hid hN
      clear s4 CKB
      go_wp2_with fail
      refine C2.out.mono ?_
      rintro e w5 ⟨rfl, hb5⟩
      have hbA5 := btrans hbA.out hb5
      have rT5 := rT.out.below hb5
      have hz5 : w3.heap.size < w5.heap.size := rT5.lt
      have hbM : Below w5.heap.size w5 ((w5.alloc (.map #[] 0)).alloc (.cells #[] 3)) := balloc (balloc (Below.refl _ _) _) _
      have i1 : ((w5.alloc (.map #[] 0)).alloc (.cells #[] 3)).cell? ⟨w3.heap.size, 1, none⟩ = some (.slice b0 ini.length d0) := (rT5.below hbM).cell 1
      have OQ : Hid (OwnQ ((w5.alloc (.map #[] 0)).alloc (.cells #[] 3)) (w5.heap.size + 1) (some ⟨w5.heap.size + 1, 0, none⟩) 0 0 []) := ⟨rfl, Nat.le_refl _, by unfold maxLen; omega, fun h => by omega⟩
      have NI := Lib.hid ((hI.out.below hbA5).below hbM)
      have BB : Hid (w5.heap.size + 1 ≤ ((w5.alloc (.map #[] 0)).alloc (.cells #[] 3)).heap.size) := by show _ ≤ _; simp
      have yy : Hid ((0 + ini.length) * 8 ≤ 140737488355328) := by show _ ≤ _; have := hl1.out; omega
      have st0 : Hid (∀ (qa : Option Addr) (qc : Nat) (w6 : World), OwnQ w6 (w5.heap.size + 1) qa ini.length qc ini → Keeps ((w5.alloc (.map #[] 0)).alloc (.cells #[] 3)) w6 (fun _ => False) → GoSt w3 w6 w3.heap.size w5.heap.size (w5.heap.size + 1) 1 b0 bo d0 d1 ini ns qa qc [] ini) := fun qa qc w6 hq hk => by
        have hk2 := hk
        have hz6 := hk.size
        have hz7 : ((w5.alloc (.map #[] 0)).alloc (.cells #[] 3)).heap.size = w5.heap.size + 2 := by simp
        refine ⟨hk2.below (btrans hbA5 hbM) (fun _ h => h.elim), (rT5.below hbM).keeps hk2 (fun h => h), (((SMap.made w5).keeps (Keeps.alloc _ _ (fun _ => False)) (fun h => h)).keeps hk2 (fun h => h)), by simpa using hq, ⟨Nat.le_refl _, hz5, by omega⟩, by omega⟩
      have hgood : ∀ x ∈ ini, 0 ≤ x ∧ x < (ns.length : Int) := g4.out
      have hinv0 : Hid (Inv ns ini [] ini) := ⟨List.nodup_nil, by simp, hgood, fun x hx => .inr hx, by simp⟩
      have hmu0 : Hid (ini.length + mu ns [] ns.length ≤ 600000) := by
        show _ ≤ _
        have h1 := mu_le hl2.out [] ns.length
        have h2 := g1.out
        have h3 := hl1.out
        have h4 : ns.length * 2000 ≤ 256 * 2000 := Nat.mul_le_mul_right _ h2
        omega
      replace hgood := Lib.hid hgood
      replace rT5 := Lib.hid rT5
      replace hbM := Lib.hid hbM
      replace hbA5 := Lib.hid hbA5
      clear C2 hif hwr hd hd2 a0 a2 rT hbA hb5
      go_wp2_with (at_builtin; refine wp_appQ rfl _ _ 22 3 rfl Try.underlying22 infoInt (w5.heap.size + 1) (some ⟨w5.heap.size + 1, 0, none⟩) 0 0 [] rfl OQ.out BB.out b0 ini.length d0 ini rfl rfl NI.out yy.out ?_)
      intro qa qc w6 hq6 hk6
      have ST0 := Lib.hid (st0.out qa qc w6 hq6 hk6)
      clear hq6 hk6 OQ NI BB yy st0 i1 rT5 hbM hbA5 hmm
      obtain ⟨mb, hmb⟩ : ∃ mb, mb = w5.heap.size := ⟨_, rfl⟩
      rw [← hmb] at ST0 ⊢
      clear hmb hz5
      go_wp2
      go_loopg [6] (ini.length + mu ns [] ns.length) (fun k lv wr => ∃ (has todo : List Int) (qa : Option Addr) (qc : Nat), lv = .slice qa todo.length qc ∧ GoSt w3 wr w3.heap.size mb (mb + 1) 1 b0 bo d0 d1 ini ns qa qc has todo ∧ Hid (Inv ns ini has todo) ∧ Hid (todo.length + mu ns has ns.length ≤ k ∧ k ≤ 600000))
      case atStart => exact ⟨[], ini, qa, qc, rfl, ST0.out, hinv0, ⟨Nat.le_refl _, hmu0.out⟩⟩
      case round =>
        obtain ⟨has, todo, qa, qc, rfl, st, hinv, hk⟩ := hrel
        clear ST0 hinv0 hmu0
        cases todo with
        | nil =>
          have hall : Hid (has.length = ns.length) := hinv.out.all hsrc.out
          have x2 : wr.cell? ⟨w3.heap.size, 2, none⟩ = some (.slice bo ns.length d1) := st.row.cell 2
          have q1 := Lib.hid st.row
          have q2 := Lib.hid st.map
          have q3 := Lib.hid st.low
          clear hinv hk st
          go_wp2
          go_loopw [2, 71] (fun bv iv wr => ∃ k : Nat, k ≤ ns.length ∧ iv = .int .i64 k ∧ bv = .bool false ∧ Below w3.heap.size w3 wr ∧ RowAt wr w3.heap.size TA [.int .i64 1, .slice b0 ini.length d0, .slice bo ns.length d1] ∧ SMap wr mb has) (fun _ iv _ => ns.length - (intOf iv).toNat)
          case atStart => exact ⟨0, Nat.zero_le _, rfl, rfl, q3.out, q1.out, q2.out⟩
          case round =>
            obtain ⟨k, hkn, rfl, rfl, low, row, mp⟩ := hrel
            clear q1 q2 q3 x2
            by_cases hlt : k < ns.length
            · have hi1 := hinn.out ns[k] (List.getElem_mem hlt)
              obtain ⟨bn, on, hbo, q0, q1, q2, at_, ct, q3, hto⟩ := (hN.out.below low).at k hlt
              generalize ns[k] = y at hi1 q0 q1 q2 q3 hto
              obtain ⟨yn, yb, yi, yt⟩ := y
              simp only at hi1 q0 q1 q2 q3 hto
              have hd : decide ((1 : Int) < (yi : Int)) = false := by simp only [decide_eq_false_iff_not]; omega
              have hd2 : decide (1 < yi) = false := by simp only [decide_eq_false_iff_not]; omega
              have hkn2 : (k : Int) < (ns.length : Int) := by omega
              have hg := g1.out
              have hbl := World.block_lt_of_cell? wr _ q3
              simp only at hbl
              subst hbo
              have hb2 : Below wr.heap.size wr (wr.alloc (.cells #[.int .u64 yn, .int .u64 yb, .int .u64 yi, .slice at_ yt.length ct] TN)) := balloc (Below.refl _ _) _
              have low2 := Lib.hid (btrans low hb2)
              have row2 := Lib.hid (row.below hb2)
              have mp2 := Lib.hid (mp.keeps (Keeps.of_below (S := fun _ => False) hb2) (fun h => h))
              clear hi1 hto low row mp hb2 hg
              have hk257 : (k : Int) < 300 := by have := g1.out; omega
              go_wp2
              go_roundw
              case rel => exact ⟨k + 1, by omega, by go_num, rfl, low2.out, row2.out, mp2.out⟩
              case measure => simp [intOf]; omega
            · obtain rfl : k = ns.length := by omega
              have hln := mp.len 3
              rw [hall.out] at hln
              have x2 : wr.cell? ⟨w3.heap.size, 2, none⟩ = some (.slice bo ns.length d1) := row.cell 2
              have hlow := Lib.hid low
              clear row mp low hall
              go_wp2_with fail
              refine (lives_true _).mono ?_
              rintro e w9 ⟨rfl, hb9⟩
              go_wp2
              go_ret
              exact ⟨rfl, btrans (btrans hbw3.out hlow.out) hb9⟩
        | cons x todo =>
          obtain ⟨h0x, hxn⟩ := hinv.out.tlt x (by simp)
          obtain ⟨j, rfl⟩ := Int.eq_ofNat_of_zero_le h0x
          have hjn : j < ns.length := by omega
          have okx : okI (j : Int) := by
            show (Lit.int .i64 (j : Int)).wf = true
            have := g1.out
            simp [Lit.wf, IntKind.min, IntKind.max, IntKind.signed, IntKind.bits]
            omega
          obtain ⟨bq, oq, v, hqa, cv, hv⟩ := st.q.nums.at 0 (by simp)
          have hv2 : v = (j : Int) := by rw [hv.out]; rfl
          obtain rfl := hv2
          have cv' : wr.cell? ⟨bq, oq, none⟩ = some (.int .i64 (j : Int)) := cv
          have hlq := st.q.le
          have hcut := fun w' => run_cut_l (P := Try.prog) Try.underlying22 Try.sizeInt qa (todo.length + 1) qc 1 (kl := .i64) (L := 1) rfl (by omega) w'
          have stt := st.tail
          obtain ⟨qa2, hqa2⟩ : ∃ qa2, qa2 = cutA qa qc 1 1 := ⟨_, rfl⟩
          obtain ⟨qc2, hqc2⟩ : ∃ qc2, qc2 = qc - 1 := ⟨_, rfl⟩
          rw [← hqa2, ← hqc2] at hcut stt
          rw [Nat.add_sub_cancel] at hcut
          have hlk := st.map.look okx
          clear hqa2 hqc2 hv cv
          subst hqa
          by_cases hm : (j : Int) ∈ has
          · have hd : decide ((j : Int) ∈ has) = true := by simpa using hm
            rw [hd] at hlk
            have hinv2 := Lib.hid (hinv.out.seen hm)
            replace stt := Lib.hid stt
            clear hd hm hinv st hlq
            go_wp2
            go_roundg (todo.length + mu ns has ns.length)
            case measure => have := hk.out.1; simp only [List.length_cons] at this; omega
            case rel => exact ⟨has, todo, qa2, qc2, rfl, stt.out, hinv2.out, ⟨Nat.le_refl _, by have := hk.out; simp only [List.length_cons] at this; omega⟩⟩
          · have hd : decide ((j : Int) ∈ has) = false := by simpa using hm
            rw [hd] at hlk
            obtain ⟨w7, hup, hm7, hg7⟩ := st.map.put okx hm (by have := hinv.out.len; have := g1.out; omega)
            have st7 := stt.put hm7 hg7
            have hto5 := g5.out ns[j] (List.getElem_mem hjn)
            have hinv2 := Lib.hid (hinv.out.new hm (by rw [toAt_get hjn]; exact hto5.1))
            have hmu := mu_new (ns := ns) hm ns.length
            rw [if_pos hjn, toAt_get hjn] at hmu
            rw [toAt_get hjn] at hinv2
            have htl := hl2.out ns[j] (List.getElem_mem hjn)
            obtain ⟨bn, on, hbo, q0, q1, q2, at_, ct, q3, hto⟩ := (hN.out.below st7.low).at j hjn
            generalize ns[j] = y at hinv2 hmu htl q0 q1 q2 q3 hto
            obtain ⟨yn, yb, yi, yt⟩ := y
            simp only at hinv2 hmu htl q0 q1 q2 q3 hto
            have x2 : w7.cell? ⟨w3.heap.size, 2, none⟩ = some (.slice bo ns.length d1) := st7.row.cell 2
            have OQ := Lib.hid st7.q
            have BB := Lib.hid st7.hB
            have NI := Lib.hid hto
            have yy : Hid ((todo.length + yt.length) * 8 ≤ 140737488355328) := by show _ ≤ _; have := hk.out; simp only [List.length_cons] at this; omega
            have hbl := World.block_lt_of_cell? w7 _ q3
            simp only at hbl
            have hjn2 : (j : Int) < (ns.length : Int) := by omega
            have hk2 : Hid (todo.length + yt.length + mu ns (has ++ [(j : Int)]) ns.length < gk ∧ gk ≤ 600000) := by
              have := hk.out
              simp only [List.length_cons] at this
              exact ⟨by omega, by omega⟩
            subst hbo
            replace st7 := Lib.hid st7
            replace hinv2 := Lib.hid hinv2
            clear hd hm hinv st hlq stt hto hmu htl hto5 hk q0 q1 q2 hm7 hg7
            go_wp2_with (at_builtin; refine wp_appQ rfl _ _ 22 3 rfl Try.underlying22 infoInt (mb + 1) qa2 todo.length qc2 todo rfl OQ.out BB.out at_ yt.length ct yt rfl rfl NI.out yy.out ?_)
            intro qa3 qc3 w8 hq8 hk8
            have hlen8 : (todo ++ yt).length = todo.length + yt.length := by simp
            have st8 := Lib.hid (st7.out.app (todo2 := todo ++ yt) (by rw [hlen8]; exact hq8) hk8)
            replace hlen8 := Lib.hid hlen8
            clear hq8 hk8 OQ BB NI yy x2 q3 hlk hup hcut cv'
            go_wp2
            go_roundg (todo.length + yt.length + mu ns (has ++ [(j : Int)]) ns.length)
            case measure => exact hk2.out.1
            case rel => exact ⟨has ++ [(j : Int)], todo ++ yt, qa3, qc3, by rw [hlen8.out], st8.out, hinv2.out, ⟨by rw [hlen8.out]; exact Nat.le_refl _, by have := hk2.out; omega⟩⟩
    · have hwb : (why != 0) = true := by simpa using hw
      obtain ⟨s, init, nodes⟩ := A
      simp only at FA ONE r1 f1 f2 hb0
      obtain ⟨s2, ini, ns⟩ := B
      try simp only at ONE
      replace FA := Lib.hid FA
      replace ONE := Lib.hid ONE
      clear hf ok hA f3 hag hw
      go_enter Try.func5, Try.ntmps5
      go_wp2_with fail
      refine FA.out.mono ?_
      rintro e w1 ⟨rfl, hb1⟩
      have s1 := r1.out.below hb1
      have hbw1 := btrans hb0 hb1
      have a0 : w1.cell? ⟨W.heap.size, 0, none⟩ = some (.int .i64 s) := s1.cell 0
      have a1 : w1.cell? ⟨W.heap.size, 1, none⟩ = some (.slice ai init.length ci) := s1.cell 1
      have a2 : w1.cell? ⟨W.heap.size, 2, none⟩ = some (.slice an nodes.length cn) := s1.cell 2
      clear FA hb1
      go_wp2_with fail
      refine (ONE.out _ hbw1).mono ?_
      rintro e w3 ⟨b0, d0, bo, d1, rfl, _, _, hb3⟩
      have hbw4 := balloc (btrans hbw1 hb3) (.cells #[.int .i64 s2, .slice b0 ini.length d0, .slice bo ns.length d1] TA)
      go_wp2_with fail
      refine (lives_true _).mono ?_
      rintro e w6 ⟨rfl, hb6⟩
      go_wp2
      go_ret
      exact ⟨rfl, btrans hbw4 hb6⟩
end Go.Proofs.Ytefplklkhcpchaa
