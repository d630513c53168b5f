/- The walk of 'LtextBytes'. Conditions: what the listed variables hold. -/
import Derived.Test.YtkehfolcfcbplaaDoorLtE
import Derived.Laws.IdiomStrings
import Derived.Laws.BitsAllLaws
namespace Go.Proofs.YtkehfolcfcbplaaDoor
open Go.RowKit Go.ChangeShapes Go.WideShapes Go.ChangeAt
set_option linter.unusedVariables false
set_option linter.unusedSimpArgs false

theorem range_u16 {n : Int} (h : (Lit.int .u16 n).wf = true) : 0 ≤ n ∧ n ≤ 65535 := by
  simpa [Lit.wf, IntKind.min, IntKind.max, IntKind.signed, IntKind.bits] using h
theorem xor_ne {a b : Nat} (hb : b ≠ 0) : a ^^^ b ≠ a := fun e => hb (by
  have h := congrArg (fun x => a ^^^ x) e
  simp only [Nat.xor_self] at h
  rw [← Nat.xor_assoc, Nat.xor_self, Nat.zero_xor] at h
  exact h)
/-- the bytes of a text, in a new block, and one of them turned -/
theorem bytes_laid (w w3 w4 : World) (u : ByteArray) (cap g i y : Nat) (hi : i < u.size) (hy : y < 256) (hg : g = w.heap.size) (h3 : w3 = w.drew.alloc (.cells (bytesRow u cap) 5 ((bytesRow u cap).size, (bytesRow u cap).size + 1))) (h4 : w4 = w3.setCell ⟨g, i, none⟩ (.int .u8 (y : Int))) :
    Below w.heap.size w w3 ∧ w3.cell? ⟨g, i, none⟩ = some (.int .u8 (u[i].toNat : Int)) ∧ w3.frozen? ⟨g, i, none⟩ = false ∧ Below w.heap.size w w4 ∧ ∀ j (hj : j < (u.data.toList.set i (UInt8.ofNat y)).length), w4.cell? ((⟨g, 0, none⟩ : Addr).add j) = some (.int .u8 (((u.data.toList.set i (UInt8.ofNat y))[j].toNat : Nat) : Int)) := by
  have hus : u.data.size = u.size := rfl
  have hb3 : Below w.heap.size w w3 := by rw [h3]; exact balloc (w1 := w.drew) (bdrewN (n := 1) (Below.refl _ _)) _
  have hc : ∀ j (hj : j < u.size), w3.cell? ⟨g, j, none⟩ = some (.int .u8 ((u.data[j]'hj).toNat : Int)) := fun j hj => by
    rw [h3, hg]
    have h := World.cell?_alloc_mark w.drew (bytesRow u cap) 5 ((bytesRow u cap).size, (bytesRow u cap).size + 1) j
    rw [bytesRow_at u cap j hj] at h
    exact h
  have hk : Keeps w3 w4 (fun j => j = g) := by rw [h4]; exact Keeps.set _ _ _ _ rfl
  refine ⟨hb3, ?_, ?_, hk.below hb3 (fun j e => by rw [e, hg]; exact Nat.le_refl _), fun j hj => ?_⟩
  · rw [hc i hi]
    rfl
  · rw [h3, hg]
    have h := World.frozen?_alloc_mark w.drew (bytesRow u cap) 5 (bytesRow u cap).size ((bytesRow u cap).size + 1) i
    refine h.trans ?_
    have : ¬ (bytesRow u cap).size ≤ i := by
      unfold bytesRow
      rw [Array.size_append, Array.size_map]
      omega
    rw [decide_eq_false this, Bool.false_and]
  · rw [List.length_set] at hj
    have hju : j < u.size := by rw [Array.length_toList] at hj; exact hj
    rw [add_off, Nat.zero_add, h4]
    by_cases e : j = i
    · subst e
      rw [World.cell?_setCell_same _ _ _ (hc j hju), List.getElem_set_self, UInt8.toNat_ofNat_of_lt' (by omega)]
    · rw [World.cell?_setCell_other _ _ _ _ (fun e2 : (⟨g, i, none⟩ : Addr) = ⟨g, j, none⟩ => e (by injection e2 with _ e2; exact e2.symm)), hc j hju, List.getElem_set_ne (Ne.symm e)]
      rfl
set_option maxRecDepth 12000 in
set_option maxHeartbeats 16000000 in
theorem ltextBytes_walk (W : World) (hd : Door W) (v0 : Value) (f : List Nd) (r0 : rSl 2 16 rNd W [v0] f) (v1 : Value) (N : List (List UInt8)) (r1 : rSl 1 16 rNm W [v1] N) (x2 : Int) (hx2 : 0 ≤ x2 ∧ x2 ≤ 65535) (x3 : Int) (hx3 : 0 ≤ x3 ∧ x3 ≤ 255) : Calls Tryd.prog 5 #[v0, v1, .int .u16 x2, .int .u8 x3] W fun e w' => e = .returned (.bool true) ∧ Below W.heap.size W w' := by
  have AW := Lib.hid (fun v (hb : Below W.heap.size W v) => awake_true v (hd.below hb))
  obtain ⟨a, c, rfl, hf, hfl, _, _⟩ := nds_at r0
  obtain ⟨na, nc, rfl, hN, hNl, hNc⟩ := nms_at r1
  have HV := heavy_any W a f.length c na nc N hN hNl hfl
  cases hh : heavyP f.length N with
  | true =>
    rw [hh] at HV
    replace HV := Lib.hid HV
    generalize f.length = n at *
    generalize N.length = m at *
    clear hd r0 r1 hf hfl hN hNl hNc hh hx2 hx3
    go_enter Tryd.func5, Tryd.ntmps5
    go_wp2_with fail
    refine HV.out.mono ?_
    rintro e w1 ⟨rfl, rfl⟩
    clear HV
    go_wp2_with fail
    refine (AW.out W (Below.refl _ _)).mono ?_
    rintro e w2 ⟨rfl, hb2⟩
    replace hb2 := Lib.hid hb2
    clear AW
    go_wp2
    go_ret
    exact ⟨rfl, hb2.out⟩
  | false =>
    rw [hh] at HV
    obtain ⟨n40, n60, n20⟩ := heavy_not hh
    have hNs : ∀ x ∈ N, x.length ≤ 281474976710656 := fun x hx => by have := n40 x hx; omega
    have TX := fun v (hb : Below W.heap.size W v) => text_form v (hd.below hb) a c f (hf.below hb) (by omega) na nc N (hN.below hb) (by omega) hNc hNs
    by_cases hx : (textP f N).2 = 0
    · by_cases h0 : x3 = 0
      · subst h0
        rw [hx] at TX
        rw [show ((0 : Nat) : Int) = 0 from rfl] at TX
        generalize (⟨(textP f N).1.toArray⟩ : ByteArray) = u at TX
        replace HV := Lib.hid HV
        replace TX := Lib.hid TX
        generalize f.length = n at *
        generalize N.length = m at *
        clear hd r0 r1 hf hfl hN hNl hNc hh n40 n60 n20 hNs hx hx2 hx3
        go_enter Tryd.func5, Tryd.ntmps5
        go_wp2_with fail
        refine HV.out.mono ?_
        rintro e w1 ⟨rfl, rfl⟩
        clear HV
        go_wp2_with fail
        refine (TX.out W (Below.refl _ _)).mono ?_
        rintro e w2 ⟨rfl, hb2⟩
        have z2 := Lib.hid hb2
        clear hb2 TX
        go_wp2_with fail
        refine (AW.out w2 z2.out).mono ?_
        rintro e w3 ⟨rfl, hb3⟩
        have z3 := Lib.hid (btrans z2.out hb3)
        clear hb3 AW
        go_wp2
        go_ret
        exact ⟨rfl, z3.out⟩
      · have h0B : (x3 == 0) = false := by rw [beq_eq_false_iff_ne]; exact h0
        obtain ⟨bn, hbn⟩ : ∃ bn : Nat, x3 = bn := ⟨x3.toNat, by omega⟩
        obtain ⟨xn, hxn⟩ : ∃ xn : Nat, x2 = xn := ⟨x2.toNat, by omega⟩
        subst hbn hxn
        obtain ⟨hne, h480⟩ := text_ne hx
        obtain ⟨L, hL⟩ : ∃ L, L = (textP f N).1 := ⟨_, rfl⟩
        obtain ⟨u, hu⟩ : ∃ u : ByteArray, u = ⟨L.toArray⟩ := ⟨_, rfl⟩
        have hus : u.size = L.length := by rw [hu, str_sz]
        have huL : u.data.toList = L := by rw [hu]
        have hu0 : 0 < u.size := by
          rw [hus, hL]
          exact List.length_pos_iff.2 hne
        have hu480 : u.size ≤ 480 := by rw [hus, hL]; exact h480
        rw [← hL, ← hu, hx] at TX
        obtain ⟨i, hi⟩ : ∃ i, i = xn % u.size := ⟨_, rfl⟩
        have hiu : i < u.size := by rw [hi]; exact Nat.mod_lt _ hu0
        have htm : Int.tmod (xn : Int) (u.size : Int) = (i : Int) := by rw [hi]; rfl
        have hwx : IntKind.i64.wrap (xn : Int) = (xn : Int) := IntWalk.i64_in _ (by omega)
        have hwi : IntKind.i64.wrap (i : Int) = (i : Int) := IntWalk.i64_in _ (by omega)
        have hiI : (i : Int) < (u.size : Int) := by omega
        have hu0I : ¬ (u.size : Int) = 0 := by omega
        have hu0N : ¬ u.size = 0 := by omega
        have hu0B : ((u.size : Int) == 0) = false := by rw [beq_eq_false_iff_ne]; exact hu0I
        obtain ⟨y, hy⟩ : ∃ y, y = u[i].toNat ^^^ bn := ⟨_, rfl⟩
        have hy256 : y < 256 := by rw [hy]; exact Nat.xor_lt_two_pow (n := 8) (UInt8.toNat_lt _) (by omega)
        have hyb : y ≠ u[i].toNat := by rw [hy]; exact xor_ne (by omega)
        have hxor : bits .xor .u8 (u[i].toNat : Int) (bn : Int) = (y : Int) := by rw [hy]; exact u8_xor_nat _ _ (UInt8.toNat_lt _) (by omega)
        obtain ⟨M, hM⟩ : ∃ M : ByteArray, M = ⟨(u.data.toList.set i (UInt8.ofNat y)).toArray⟩ := ⟨_, rfl⟩
        have hMne : M.data.toList ≠ (textP f N).1 := fun e => by
          rw [← hL, hM] at e
          have e2 : u.data.toList.set i (UInt8.ofNat y) = L := e
          have hil : i < u.data.toList.length := by rw [Array.length_toList]; exact hiu
          have e3 : (u.data.toList.set i (UInt8.ofNat y))[i]'(by rw [List.length_set]; exact hil) = u.data.toList[i] := by
            have : ∀ (A B : List UInt8) (h1 : i < A.length) (h2 : i < B.length), A = B → A[i] = B[i] := fun A B h1 h2 e => by subst e; rfl
            exact this _ _ _ _ (e2.trans huL.symm)
          rw [List.getElem_set_self] at e3
          have e4 := congrArg UInt8.toNat e3
          rw [UInt8.toNat_ofNat_of_lt' (by omega), ← data_at u i hiu] at e4
          exact hyb e4
        have hMs : M.size ≤ 281474976710656 := by
          have h1 : M.size = u.size := by
            rw [hM, str_sz, List.length_set, Array.length_toList]
            rfl
          omega
        obtain ⟨o, ho⟩ := parse_total M.data.toList N
        have OT := other_text hx hMne ho
        have PT := fun v (hb : Below W.heap.size W v) => parse_told v (hd.below hb) M hMs na nc N (hN.below hb) (by omega) hNc hNs o ho
        have BA : Hid (∀ v, Below W.heap.size W v → Calls Tryd.prog 13 #[.slice a f.length c] v fun e w' => BareV f.length f e w' ∧ Below v.heap.size v w') := fun v hb => bare_any v a c f (hf.below hb) (by omega)
        have hol : o.1.length ≤ 100000 := by
          by_cases e0 : o.2.2 = 0
          · obtain ⟨t, _, ht, h24, _⟩ := parse_text ho e0
            rw [ht]
            show t.post.length ≤ 100000
            omega
          · rw [parse_none ho e0]
            exact Nat.zero_le _
        have NB : Hid (o.2.2 = 0 → ∀ v a b c d, NdAt v a o.1 → NdAt v b (f.map bareN) → Calls Tryd.prog 12 #[.slice a o.1.length c, .slice b f.length d] v fun e w' => e = .returned (.bool false) ∧ Below v.heap.size v w') := fun e0 v a b c d ha hb => by
          have h := nodes_any v a b c d o.1 (f.map bareN) ha hb hol (by rw [List.length_map]; omega)
          rw [List.length_map] at h
          refine h.mono fun e w' ⟨h1, h2⟩ => ⟨?_, h2.below _⟩
          rw [h1, decide_eq_false]
          rcases OT with h3 | h3
          · exact absurd e0 h3
          · exact h3
        have LAID : Hid (∀ w w3 w4 cap g, g = w.heap.size → w3 = w.drew.alloc (.cells (bytesRow u cap) 5 ((bytesRow u cap).size, (bytesRow u cap).size + 1)) → w4 = w3.setCell ⟨g, i, none⟩ (.int .u8 (y : Int)) → Below w.heap.size w w3 ∧ w3.cell? ⟨g, i, none⟩ = some (.int .u8 (u[i].toNat : Int)) ∧ w3.frozen? ⟨g, i, none⟩ = false ∧ Below w.heap.size w w4 ∧ (convert 35 9 (.slice (some ⟨g, 0, none⟩) u.size cap)).run Tryd.prog w4 = .ok (.string M) w4) := fun w w3 w4 cap g h1 h2 h3 => by
          obtain ⟨k1, k2, k3, k4, k5⟩ := bytes_laid w w3 w4 u cap g i y hiu hy256 h1 h2 h3
          refine ⟨k1, k2, k3, k4, ?_⟩
          have h := run_convert_bytes_back (P := Tryd.prog) w4 35 9 5 ⟨g, 0, none⟩ cap (u.data.toList.set i (UInt8.ofNat y)) Tryd.underlying35 Tryd.underlying5 Tryd.underlying9 k5
          rw [List.length_set, Array.length_toList, ← hM] at h
          exact h
        have hnul : u.toList.isEmpty = false := by
          cases h : u.toList with
          | nil =>
            rw [ByteArray.toList_eq, huL] at h
            rw [hL] at h
            exact absurd h hne
          | cons a b => rfl
        have hnl : ¬ u.toList = [] := fun e => by rw [e] at hnul; cases hnul
        have CV := fun (v : World) => run_bytes_of_string (P := Tryd.prog) v 9 35 5 u Tryd.underlying9 Tryd.underlying35 Tryd.underlying5
        replace CV := Lib.hid CV
        obtain ⟨ol, op, oe⟩ := o
        dsimp only at PT NB
        generalize hg : ol.length = gl at PT NB
        obtain ⟨b0, hb0⟩ : ∃ b0, b0 = u[i].toNat := ⟨_, rfl⟩
        rw [← hb0] at hxor
        have LAID2 := LAID
        simp only [← hb0] at LAID2
        have hnI : (f.length : Int) ≤ 60 := by omega
        obtain ⟨sz, hsz⟩ : ∃ sz, sz = u.size := ⟨_, rfl⟩
        have hszI : (sz : Int) ≤ 480 := by omega
        rw [show ((0 : Nat) : Int) = 0 from rfl] at TX
        generalize f.length = n at *
        generalize N.length = m at *
        replace HV := Lib.hid HV
        replace TX := Lib.hid TX
        replace PT := Lib.hid PT
        replace LAID2 := Lib.hid LAID2
        rw [← hsz] at htm hiI hu0I hu0N hu0B
        replace hsz := Lib.hid hsz
        clear LAID hd r0 r1 hf hfl hN hNl hNc hh n40 n60 n20 hNs ho OT hol hg hx hx2 hx3 h0 hne h480 hL hu hus huL hu0 hu480 hi hiu hy hy256 hyb hM hMne hMs hb0
        go_enter Tryd.func5, Tryd.ntmps5
        go_wp2_with fail
        refine HV.out.mono ?_
        rintro e w1 ⟨rfl, rfl⟩
        clear HV
        go_wp2_with fail
        refine (TX.out W (Below.refl _ _)).mono ?_
        rintro e w2 ⟨rfl, hb2⟩
        have z2 := Lib.hid hb2
        clear hb2 TX
        go_upto_region 8 with (fail)
        have CV2 := CV.out w2
        obtain ⟨cap, hcap⟩ : ∃ cap, cap = grownCap w2 u.size 0 5 := ⟨_, rfl⟩
        rw [← hcap] at CV2
        obtain ⟨w3, hw3⟩ : ∃ w3, w3 = w2.drew.alloc (.cells (bytesRow u cap) 5 ((bytesRow u cap).size, (bytesRow u cap).size + 1)) := ⟨_, rfl⟩
        obtain ⟨g, hg⟩ : ∃ g, g = w2.heap.size := ⟨_, rfl⟩
        rw [← hw3, ← hg, ← hsz.out] at CV2
        obtain ⟨w4, hw4⟩ : ∃ w4, w4 = w3.setCell ⟨g, i, none⟩ (.int .u8 (y : Int)) := ⟨_, rfl⟩
        obtain ⟨l1, l2, l3, l4, l5⟩ := LAID2.out w2 w3 w4 cap g hg hw3 hw4
        rw [← hsz.out] at l5
        have z3 := Lib.hid (btrans z2.out l1)
        have z4 := Lib.hid (btrans z2.out l4)
        replace hcap := Lib.hid hcap
        replace hw3 := Lib.hid hw3
        replace hg := Lib.hid hg
        replace hw4 := Lib.hid hw4
        replace l5 := Lib.hid l5
        clear l1 l4 LAID2 CV
        go_upto_region 9 with (fail)
        go_upto_region 10 with (fail)
        rw [← hw4.out]
        have l6 := l5.out
        clear l2 l3 z3 CV2 hxor
        go_wp2_with fail
        refine (PT.out w4 z4.out).mono ?_
        rintro e w5 ⟨oa5, oc5, rfl, nd5, hb5⟩
        have z5 := Lib.hid (btrans z4.out hb5)
        replace nd5 := Lib.hid nd5
        clear hb5 PT z4 l6 l5
        by_cases hoe : oe = 0
        · subst hoe
          have NB2 := Lib.hid (NB.out rfl)
          clear NB
          rw [show ((0 : Nat) : Int) = 0 from rfl]
          go_wp2_with fail
          refine (BA.out w5 z5.out).mono ?_
          rintro e w6 ⟨⟨oa6, oc6, rfl, nd6⟩, hb6⟩
          have z6 := Lib.hid (btrans z5.out hb6)
          have N6 := Lib.hid (NB2.out w6 oa5 oa6 oc5 oc6 (nd5.out.below hb6) nd6)
          clear hb6 nd6 nd5 BA NB2 z5
          go_wp2_with fail
          refine N6.out.mono ?_
          rintro e w7 ⟨rfl, hb7⟩
          have z7 := Lib.hid (btrans z6.out hb7)
          have A7 := Lib.hid (AW.out w7 z7.out)
          clear hb7 N6 z6 AW
          go_wp2_with fail
          refine A7.out.mono ?_
          rintro e w8 ⟨rfl, hb8⟩
          have z8 := Lib.hid (btrans z7.out hb8)
          clear hb8 A7
          go_wp2
          go_ret
          exact ⟨rfl, z8.out⟩
        · have heB : ((oe : Int) != 0) = true := by rw [bne_iff_ne]; omega
          have heN : (oe != 0) = true := by rw [bne_iff_ne]; exact hoe
          clear NB BA nd5 hoe
          have A7 := Lib.hid (AW.out w5 z5.out)
          clear AW
          go_wp2_with fail
          refine A7.out.mono ?_
          rintro e w8 ⟨rfl, hb8⟩
          have z8 := Lib.hid (btrans z5.out hb8)
          clear hb8 A7
          go_wp2
          go_ret
          exact ⟨rfl, z8.out⟩
    · have hs0 := textP_no hx
      rw [hs0] at TX
      obtain ⟨y, hy⟩ : ∃ y, y = (textP f N).2 := ⟨_, rfl⟩
      rw [← hy] at TX hx
      have hyB : ((y : Int) != 0) = true := by rw [bne_iff_ne]; omega
      have hyN : (y != 0) = true := by rw [bne_iff_ne]; exact hx
      have hyB2 : ((y : Int) == 0) = false := by rw [beq_eq_false_iff_ne]; omega
      have hyN2 : (y == 0) = false := by rw [beq_eq_false_iff_ne]; exact hx
      replace HV := Lib.hid HV
      replace TX := Lib.hid TX
      generalize f.length = n at *
      generalize N.length = m at *
      clear hd r0 r1 hf hfl hN hNl hNc hh n40 n60 n20 hNs hx hs0 hy hx2 hx3
      go_enter Tryd.func5, Tryd.ntmps5
      go_wp2_with fail
      refine HV.out.mono ?_
      rintro e w1 ⟨rfl, rfl⟩
      clear HV
      go_wp2_with fail
      refine (TX.out W (Below.refl _ _)).mono ?_
      rintro e w2 ⟨rfl, hb2⟩
      have z2 := Lib.hid hb2
      clear hb2 TX
      go_wp2_with fail
      refine (AW.out w2 z2.out).mono ?_
      rintro e w3 ⟨rfl, hb3⟩
      have z3 := Lib.hid (btrans z2.out hb3)
      clear hb3 AW
      go_wp2
      go_ret
      exact ⟨rfl, z3.out⟩
end Go.Proofs.YtkehfolcfcbplaaDoor
