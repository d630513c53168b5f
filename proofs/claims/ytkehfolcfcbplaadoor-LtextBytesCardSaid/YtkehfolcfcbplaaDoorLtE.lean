/- The walk of 'LtextBack'. Conditions: what the listed variables hold. -/
import Derived.Test.YtkehfolcfcbplaaDoorLtD
namespace Go.Proofs.YtkehfolcfcbplaaDoor
open Go.RowKit Go.ChangeShapes Go.WideShapes Go.ChangeAt
set_option linter.unusedVariables false
set_option linter.unusedSimpArgs false

theorem parse_none {L : List UInt8} {N : List (List UInt8)} {o : List Nd × Nat × Nat} (h : ParseR L N o) (h0 : o.2.2 ≠ 0) : o.1 = [] := by
  unfold ParseR at h
  split at h
  · obtain ⟨R, _, rfl⟩ := h
    cases R with
    | no r => rfl
    | ok t r =>
      cases r with
      | cons c r => rfl
      | nil =>
        revert h0
        show (if 24 < t.post.length then (([], L.length, 5) : List Nd × Nat × Nat) else if txt (nmP N) t = L then (t.post, 0, 0) else ([], differP (txt (nmP N) t) L, 13)).2.2 ≠ 0 → _
        intro h0
        show (if 24 < t.post.length then (([], L.length, 5) : List Nd × Nat × Nat) else if txt (nmP N) t = L then (t.post, 0, 0) else ([], differP (txt (nmP N) t) L, 13)).1 = []
        split
        · rfl
        · rename_i h1
          rw [if_neg h1] at h0
          split
          · rename_i h2
            rw [if_pos h2] at h0
            exact absurd rfl h0
          · rfl
  · rw [h]
/-- a reading, told as the law wants it -/
theorem parse_told (v : World) (hd : Door v) (s : ByteArray) (hs : s.size ≤ 281474976710656) (na : Option Addr) (nc : Nat) (N : List (List UInt8)) (hN : StrsAt v na N) (hNl : N.length ≤ 1000) (hNc : N.length ≤ nc) (hNs : ∀ x ∈ N, x.length ≤ 281474976710656) (o : List Nd × Nat × Nat) (ho : ParseR s.data.toList N o) :
    Calls Tryd.prog 11 #[.string s, .slice na N.length nc] v fun e w' => ∃ oa oc, e = .returned (.tuple #[.slice oa o.1.length oc, .int .i64 (o.2.1 : Int), .int .i64 (o.2.2 : Int)]) ∧ NdAt w' oa o.1 ∧ Below v.heap.size v w' :=
  (parse_form v hd s hs na nc N hN hNl hNc hNs o ho).mono fun e w' ⟨oa, oc, h1, h2, h3⟩ => ⟨oa, oc, h1, NdAt.of_own h2, h3⟩
theorem nodes_bare (v : World) (a b : Option Addr) (c d : Nat) (f : List Nd) (ha : NdAt v a (f.map bareN)) (hb : NdAt v b (f.map bareN)) (hl : f.length ≤ 1000) :
    Calls Tryd.prog 12 #[.slice a f.length c, .slice b f.length d] v fun e w' => e = .returned (.bool true) ∧ Below v.heap.size v w' := by
  have h := nodes_any v a b c d (f.map bareN) (f.map bareN) ha hb (by rw [List.length_map]; omega) (by rw [List.length_map]; omega)
  rw [List.length_map] at h
  exact h.mono fun e w' ⟨h1, h2⟩ => ⟨by rw [h1, decide_eq_true rfl], h2.below _⟩
set_option maxRecDepth 8000 in
set_option maxHeartbeats 16000000 in
theorem ltextBack_walk (W : World) (hd : Door W) (v0 : Value) (f : List Nd) (r0 : rSl 2 16 rNd W [v0] f) (s : ByteArray) (hsz : s.size ≤ reachBytes) (v1 : Value) (N : List (List UInt8)) (r1 : rSl 1 16 rNm W [v1] N) : Calls Tryd.prog 4 #[v0, .string s, v1] W fun e w' => e = .returned (.bool true) ∧ Below W.heap.size W w' := by
  have AW := Lib.hid (fun v (hb : Below W.heap.size W v) => awake_true v (hd.below hb))
  obtain ⟨a, c, rfl, hf, hfl, _, _⟩ := nds_at r0
  obtain ⟨na, nc, rfl, hN, hNl, hNc⟩ := nms_at r1
  have HV := heavy_any W a f.length c na nc N hN hNl hfl
  have hs2 : s.size ≤ 281474976710656 := by unfold reachBytes at hsz; omega
  have hsI : (s.size : Int) ≤ 281474976710656 := by omega
  cases hh : heavyP f.length N with
  | true =>
    rw [hh] at HV
    replace HV := Lib.hid HV
    generalize f.length = n at *
    generalize N.length = m at *
    clear hd r0 r1 hf hfl hN hNl hNc hh hsz hs2
    go_enter Tryd.func4, Tryd.ntmps4
    go_wp2_with fail
    refine HV.out.mono ?_
    rintro e w1 ⟨rfl, rfl⟩
    clear HV
    go_wp2_with fail
    refine (AW.out W (Below.refl _ _)).mono ?_
    rintro e w2 ⟨rfl, hb2⟩
    replace hb2 := Lib.hid hb2
    clear AW
    go_wp2
    go_ret
    exact ⟨rfl, hb2.out⟩
  | false =>
    rw [hh] at HV
    by_cases h600 : s.size ≤ 600
    · have h600I : ¬ (600 : Int) < (s.size : Int) := by omega
      obtain ⟨n40, n60, n20⟩ := heavy_not hh
      have hNs : ∀ x ∈ N, x.length ≤ 281474976710656 := fun x hx => by have := n40 x hx; omega
      have TX := fun v (hb : Below W.heap.size W v) => text_form v (hd.below hb) a c f (hf.below hb) (by omega) na nc N (hN.below hb) (by omega) hNc hNs
      obtain ⟨o, ho⟩ := parse_total s.data.toList N
      have PT := fun v (hb : Below W.heap.size W v) => parse_told v (hd.below hb) s hs2 na nc N (hN.below hb) (by omega) hNc hNs o ho
      have TX2 : Hid (o.2.2 = 0 → ∀ v oa oc, Below W.heap.size W v → NdAt v oa o.1 → Calls Tryd.prog 9 #[.slice oa o.1.length oc, .slice na N.length nc] v fun e w' => e = .returned (.tuple #[.string s, .int .i64 0]) ∧ Below v.heap.size v w') := fun e0 v oa oc hb ha => by
        obtain ⟨t, _, ht, h24, _⟩ := parse_text ho e0
        have hl : o.1.length ≤ 1000 := by rw [ht]; show t.post.length ≤ 1000; omega
        have h := text_form v (hd.below hb) oa oc o.1 ha hl na nc N (hN.below hb) (by omega) hNc hNs
        rw [text_back ho e0] at h
        exact h
      have NO : Hid (o.2.2 ≠ 0 → o.1.length = 0) := fun e0 => by rw [parse_none ho e0]; rfl
      have BA : Hid (∀ v, Below W.heap.size W v → Calls Tryd.prog 13 #[.slice a f.length c] v fun e w' => BareV f.length f e w' ∧ Below v.heap.size v w') := fun v hb => bare_any v a c f (hf.below hb) (by omega)
      have NB : Hid (∀ v a b c d, NdAt v a (f.map bareN) → NdAt v b (f.map bareN) → Calls Tryd.prog 12 #[.slice a f.length c, .slice b f.length d] v fun e w' => e = .returned (.bool true) ∧ Below v.heap.size v w') := fun v a b c d ha hb => nodes_bare v a b c d f ha hb (by omega)
      have PB : Hid ((textP f N).2 = 0 → ∀ v, Below W.heap.size W v → Calls Tryd.prog 11 #[.string ⟨(textP f N).1.toArray⟩, .slice na N.length nc] v fun e w' => ∃ oa oc, e = .returned (.tuple #[.slice oa f.length oc, .int .i64 0, .int .i64 0]) ∧ NdAt w' oa (f.map bareN) ∧ Below v.heap.size v w') := fun e0 v hb => by
        have h1 := (text_ne e0).2
        have h := parse_told v (hd.below hb) ⟨(textP f N).1.toArray⟩ (by rw [str_sz]; omega) na nc N (hN.below hb) (by omega) hNc hNs (f.map bareN, 0, 0) (by exact parse_back e0)
        dsimp only at h
        rw [List.length_map] at h
        exact h
      obtain ⟨ol, op, oe⟩ := o
      dsimp only at PT TX2 NO
      generalize hg : ol.length = gl at PT TX2 NO
      generalize (⟨(textP f N).1.toArray⟩ : ByteArray) = u at TX PB
      generalize (textP f N).2 = x at TX PB
      have hnI : (f.length : Int) ≤ 60 := by omega
      generalize f.length = n at *
      generalize N.length = m at *
      replace HV := Lib.hid HV
      replace TX := Lib.hid TX
      replace PT := Lib.hid PT
      clear hd r0 r1 hf hfl hN hNl hNc hh n40 n60 n20 hNs ho hsz hs2 h600 hg
      by_cases hx : x = 0
      · subst hx
        have PB2 := Lib.hid (PB.out rfl)
        clear PB
        go_enter Tryd.func4, Tryd.ntmps4
        go_wp2_with fail
        refine HV.out.mono ?_
        rintro e w1 ⟨rfl, rfl⟩
        clear HV
        go_wp2_with fail
        refine (TX.out W (Below.refl _ _)).mono ?_
        rintro e w2 ⟨rfl, hb2⟩
        have z2 := Lib.hid hb2
        clear hb2
        go_wp2_with fail
        refine (PB2.out w2 z2.out).mono ?_
        rintro e w3 ⟨oa3, oc3, rfl, nd3, hb3⟩
        have z3 := Lib.hid (btrans z2.out hb3)
        replace nd3 := Lib.hid nd3
        clear hb3 PB2 TX z2
        go_wp2_with fail
        refine (BA.out w3 z3.out).mono ?_
        rintro e w4 ⟨⟨oa4, oc4, rfl, nd4⟩, hb4⟩
        have z4 := Lib.hid (btrans z3.out hb4)
        have N4 := Lib.hid (NB.out w4 oa3 oa4 oc3 oc4 (nd3.out.below hb4) nd4)
        clear hb4 nd4 BA NB nd3 z3
        go_wp2_with fail
        refine N4.out.mono ?_
        rintro e w5 ⟨rfl, hb5⟩
        have z5 := Lib.hid (btrans z4.out hb5)
        clear hb5 N4 z4
        by_cases hoe : oe = 0
        · subst hoe
          have TX3 := Lib.hid (TX2.out rfl)
          clear TX2 NO
          go_wp2_with fail
          refine (PT.out w5 z5.out).mono ?_
          rintro e w6 ⟨oa6, oc6, rfl, nd6, hb6⟩
          have z6 := Lib.hid (btrans z5.out hb6)
          have T6 := Lib.hid (TX3.out w6 oa6 oc6 z6.out nd6)
          clear hb6 nd6 PT TX3 z5
          rw [show ((0 : Nat) : Int) = 0 from rfl]
          go_wp2_with fail
          refine T6.out.mono ?_
          rintro e w7 ⟨rfl, hb7⟩
          have z7 := Lib.hid (btrans z6.out hb7)
          clear hb7 T6 z6
          go_wp2_with fail
          refine (AW.out w7 z7.out).mono ?_
          rintro e w8 ⟨rfl, hb8⟩
          have z8 := Lib.hid (btrans z7.out hb8)
          clear hb8 AW z7
          go_wp2
          go_ret
          exact ⟨rfl, z8.out⟩
        · have heB : ((oe : Int) != 0) = true := by rw [bne_iff_ne]; omega
          have heN : (oe != 0) = true := by rw [bne_iff_ne]; exact hoe
          have hgl : gl = 0 := NO.out hoe
          subst hgl
          clear TX2 NO hoe
          go_wp2_with fail
          refine (PT.out w5 z5.out).mono ?_
          rintro e w6 ⟨oa6, oc6, rfl, nd6, hb6⟩
          have z6 := Lib.hid (btrans z5.out hb6)
          clear hb6 nd6 PT z5
          go_wp2_with fail
          refine (AW.out w6 z6.out).mono ?_
          rintro e w8 ⟨rfl, hb8⟩
          have z8 := Lib.hid (btrans z6.out hb8)
          clear hb8 AW z6
          go_wp2
          go_ret
          exact ⟨rfl, z8.out⟩
      · have hxB : ((x : Int) == 0) = false := by rw [beq_eq_false_iff_ne]; omega
        have hxN : (x == 0) = false := by rw [beq_eq_false_iff_ne]; exact hx
        clear PB
        go_enter Tryd.func4, Tryd.ntmps4
        go_wp2_with fail
        refine HV.out.mono ?_
        rintro e w1 ⟨rfl, rfl⟩
        clear HV
        go_wp2_with fail
        refine (TX.out W (Below.refl _ _)).mono ?_
        rintro e w2 ⟨rfl, hb2⟩
        have z2 := Lib.hid hb2
        clear hb2
        clear TX BA NB
        have z5 := z2
        clear z2
        generalize w2 = w5 at *
        by_cases hoe : oe = 0
        · subst hoe
          have TX3 := Lib.hid (TX2.out rfl)
          clear TX2 NO
          go_wp2_with fail
          refine (PT.out w5 z5.out).mono ?_
          rintro e w6 ⟨oa6, oc6, rfl, nd6, hb6⟩
          have z6 := Lib.hid (btrans z5.out hb6)
          have T6 := Lib.hid (TX3.out w6 oa6 oc6 z6.out nd6)
          clear hb6 nd6 PT TX3 z5
          rw [show ((0 : Nat) : Int) = 0 from rfl]
          go_wp2_with fail
          refine T6.out.mono ?_
          rintro e w7 ⟨rfl, hb7⟩
          have z7 := Lib.hid (btrans z6.out hb7)
          clear hb7 T6 z6
          go_wp2_with fail
          refine (AW.out w7 z7.out).mono ?_
          rintro e w8 ⟨rfl, hb8⟩
          have z8 := Lib.hid (btrans z7.out hb8)
          clear hb8 AW z7
          go_wp2
          go_ret
          exact ⟨rfl, z8.out⟩
        · have heB : ((oe : Int) != 0) = true := by rw [bne_iff_ne]; omega
          have heN : (oe != 0) = true := by rw [bne_iff_ne]; exact hoe
          have hgl : gl = 0 := NO.out hoe
          subst hgl
          clear TX2 NO hoe
          go_wp2_with fail
          refine (PT.out w5 z5.out).mono ?_
          rintro e w6 ⟨oa6, oc6, rfl, nd6, hb6⟩
          have z6 := Lib.hid (btrans z5.out hb6)
          clear hb6 nd6 PT z5
          go_wp2_with fail
          refine (AW.out w6 z6.out).mono ?_
          rintro e w8 ⟨rfl, hb8⟩
          have z8 := Lib.hid (btrans z6.out hb8)
          clear hb8 AW z6
          go_wp2
          go_ret
          exact ⟨rfl, z8.out⟩
    · have h600I : (600 : Int) < (s.size : Int) := by omega
      replace HV := Lib.hid HV
      generalize f.length = n at *
      generalize N.length = m at *
      clear hd r0 r1 hf hfl hN hNl hNc hh hsz hs2 h600
      go_enter Tryd.func4, Tryd.ntmps4
      go_wp2_with fail
      refine HV.out.mono ?_
      rintro e w1 ⟨rfl, rfl⟩
      clear HV
      go_wp2_with fail
      refine (AW.out W (Below.refl _ _)).mono ?_
      rintro e w2 ⟨rfl, hb2⟩
      replace hb2 := Lib.hid hb2
      clear AW
      go_wp2
      go_ret
      exact ⟨rfl, hb2.out⟩
end Go.Proofs.YtkehfolcfcbplaaDoor
