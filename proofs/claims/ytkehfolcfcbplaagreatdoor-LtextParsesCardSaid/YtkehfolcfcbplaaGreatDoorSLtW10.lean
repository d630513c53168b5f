/- Whether a name may be, and a formula's text (the document's May and Text), walked. Conditions: not too many nodes and names, short names. -/
import Derived.Test.YtkehfolcfcbplaaGreatDoorSLtW9
import Derived.Test.YtkehfolcfcbplaaGreatDoorSLtW7
import Derived.Test.YtkehfolcfcbplaaGreatDoorSLexV
namespace Go.Proofs.YtkehfolcfcbplaaGreatDoor
open Go.RowKit
set_option linter.unusedVariables false
set_option linter.unusedSimpArgs false
theorem laid_any (w : World) (a : Option Addr) (c : Nat) (f : List Nd) (na : Option Addr) (nc : Nat) (N : List (List UInt8)) (X : LdX w a c f na nc N) (nm : Int → List UInt8) (hnm : nm = nmP N) : ∀ (t : Fm) (pre suf : List Nd), f = pre ++ (t.post ++ suf) → OkN N t → LaidC w a c na nc f.length N.length nm t (pre.length + t.post.length - 1)
  | .leaf (x, y), pre, suf, e, ok => laid_leaf w a c f na nc N X nm hnm x y pre suf e ok
  | .un (x, y) u, pre, suf, e, ok => laid_un w a c f na nc N X nm hnm x y u pre suf e ok (laid_any w a c f na nc N X nm hnm u pre ([(x, y)] ++ suf) (by rw [e, Fm.post]; simp) ⟨ok.1.2, ok.2⟩)
  | .bin (x, y) u v, pre, suf, e, ok => laid_bin w a c f na nc N X nm hnm x y u v pre suf e ok (laid_any w a c f na nc N X nm hnm u pre (v.post ++ ([(x, y)] ++ suf)) (by rw [e, Fm.post]; simp) ⟨ok.1.2.1, ok.2.1⟩) (laid_any w a c f na nc N X nm hnm v (pre ++ u.post) ([(x, y)] ++ suf) (by rw [e, Fm.post]; simp) ⟨ok.1.2.2, ok.2.2⟩)
def sevenW : List (List UInt8) := [[88], [70], [71], [85], [82], [116, 114, 117, 101], [102, 97, 108, 115, 101]]
theorem own_seven {s : List UInt8} (h : nameP s = true) : ownF.contains s = sevenW.contains s := by
  rw [Bool.eq_iff_iff, List.contains_iff_mem, List.contains_iff_mem]
  have hn : ∀ x : List UInt8, x ∈ ownF → nameP x = true → x ∈ sevenW := by
    intro x hx
    have : ∀ x ∈ ownF, nameP x = true → x ∈ sevenW := by decide
    exact this x hx
  have hs : ∀ x ∈ sevenW, x ∈ ownF := by decide
  exact ⟨fun hx => hn s hx h, hs s⟩
set_option maxRecDepth 8000 in
set_option maxHeartbeats 8000000 in
theorem rmay_any (w : World) (a : Option Addr) (c : Nat) (N : List (List UInt8)) (hN : StrsAt w a N) (hl : N.length ≤ 1000) (k : Nat) (hk : k < N.length) (hs : (N.getD k []).length ≤ 281474976710656) :
    Calls Tryz.prog 41 #[.slice a N.length c, .int .i64 (k : Int)] w fun e w' => e = .returned (.bool (mayP N k)) ∧ Below w.heap.size w w' := by
  have hN2 := Lib.hid hN
  obtain ⟨b, off, ea, hcell⟩ := hN (by omega)
  have c1 := hcell k hk
  obtain ⟨s, hse⟩ : ∃ s : ByteArray, s = ⟨N[k].toArray⟩ := ⟨_, rfl⟩
  rw [← hse] at c1
  have hgd : N.getD k [] = N[k] := by simp [List.getD, List.getElem?_eq_getElem hk]
  have hsd : s.data.toList = N[k] := by rw [hse]
  have hsz : (s.size : Int) ≤ 281474976710656 := by
    have : s.size = s.data.toList.length := by rw [Array.length_toList]; rfl
    rw [hgd] at hs
    rw [this, hsd]
    omega
  have hr : mayP N k = (nameP s.data.toList && !(ownF.contains s.data.toList) && !((N.take k).contains s.data.toList)) := by
    unfold mayP
    rw [hgd, hsd]
  rw [hr]
  have RN := fun v => rname_any v s hsz
  have OS := own_seven (s := s.data.toList)
  generalize nameP s.data.toList = nm at RN OS ⊢
  obtain ⟨n, hn⟩ : ∃ n, n = N.length := ⟨_, rfl⟩
  rw [← hn]
  have hkI : (k : Int) < (n : Int) := by omega
  have hnI : (n : Int) ≤ 1000 := by omega
  replace RN := Lib.hid RN
  cases nm with
  | false =>
    rw [Bool.false_and, Bool.false_and]
    subst ea
    clear OS hr hsz hsd hgd hse hcell hN hl hk hs hn hN2
    go_enter Tryz.func41, Tryz.ntmps41
    go_wp2_with fail
    refine (RN.out w).mono ?_
    rintro e w1 ⟨rfl, hb1⟩
    replace hb1 := Lib.hid hb1
    go_wp2
    go_ret
    exact ⟨rfl, hb1.out⟩
  | true =>
    rw [OS rfl, Bool.true_and]
    clear hr OS
    by_cases h7 : s.data.toList ∈ sevenW
    · rw [List.contains_iff_mem.2 h7, Bool.not_true, Bool.false_and]
      have hx : s ∈ ([⟨#[88]⟩, ⟨#[70]⟩, ⟨#[71]⟩, ⟨#[85]⟩, ⟨#[82]⟩, ⟨#[116, 114, 117, 101]⟩, ⟨#[102, 97, 108, 115, 101]⟩] : List ByteArray) := by
        simp only [sevenW, List.mem_cons, List.not_mem_nil, or_false] at h7 ⊢
        rcases h7 with h | h | h | h | h | h | h
        · exact .inl (take_eta h)
        · exact .inr (.inl (take_eta h))
        · exact .inr (.inr (.inl (take_eta h)))
        · exact .inr (.inr (.inr (.inl (take_eta h))))
        · exact .inr (.inr (.inr (.inr (.inl (take_eta h)))))
        · exact .inr (.inr (.inr (.inr (.inr (.inl (take_eta h))))))
        · exact .inr (.inr (.inr (.inr (.inr (.inr (take_eta h))))))
      subst ea
      clear h7 hsz hsd hgd hse hcell hN hl hk hs hn hN2
      simp only [List.mem_cons, List.not_mem_nil, or_false] at hx
      rcases hx with rfl | rfl | rfl | rfl | rfl | rfl | rfl <;>
        (go_enter Tryz.func41, Tryz.ntmps41
         go_wp2_with fail
         refine (RN.out w).mono ?_
         rintro e w1 ⟨rfl, hb1⟩
         replace hb1 := Lib.hid hb1
         go_wp2
         go_ret
         exact ⟨rfl, hb1.out⟩)
    · have hct : sevenW.contains s.data.toList = false := by
        cases h : sevenW.contains s.data.toList with
        | false => rfl
        | true => exact absurd (List.contains_iff_mem.1 h) h7
      rw [hct, Bool.not_false, Bool.true_and]
      have n1 : ¬ s.data.toList = [88] := fun h => h7 (by rw [h]; decide)
      have n2 : ¬ s.data.toList = [70] := fun h => h7 (by rw [h]; decide)
      have n3 : ¬ s.data.toList = [71] := fun h => h7 (by rw [h]; decide)
      have n4 : ¬ s.data.toList = [85] := fun h => h7 (by rw [h]; decide)
      have n5 : ¬ s.data.toList = [82] := fun h => h7 (by rw [h]; decide)
      have n6 : ¬ s.data.toList = [116, 114, 117, 101] := fun h => h7 (by rw [h]; decide)
      have n7 : ¬ s.data.toList = [102, 97, 108, 115, 101] := fun h => h7 (by rw [h]; decide)
      have a1 := str_ne n1
      have b1 := str_ne' n1
      have a2 := str_ne n2
      have b2 := str_ne' n2
      have a3 := str_ne n3
      have b3 := str_ne' n3
      have a4 := str_ne n4
      have b4 := str_ne' n4
      have a5 := str_ne n5
      have b5 := str_ne' n5
      have a6 := str_ne n6
      have b6 := str_ne' n6
      have a7 := str_ne n7
      have b7 := str_ne' n7
      obtain ⟨res, hres⟩ : ∃ res, res = (N.take k).contains s.data.toList := ⟨_, rfl⟩
      rw [← hres]
      have ST : Hid (∀ i (hi : i < N.length), i < k → N[i] = s.data.toList → res = true) := fun i hi hik e => by
        rw [hres, List.contains_iff_mem, ← e]
        exact List.mem_take_iff_getElem.2 ⟨i, by omega, rfl⟩
      have FIN : Hid ((∀ i (hi : i < N.length), i < k → N[i] ≠ s.data.toList) → res = false) := fun h => by
        cases hr : res with
        | false => rfl
        | true =>
          rw [hr] at hres
          obtain ⟨i, hi, e⟩ := List.mem_take_iff_getElem.1 (List.contains_iff_mem.1 hres.symm)
          exact absurd e (h i (by omega) (by omega))
      have H0 : Hid (∀ i (hi : i < N.length), i < 0 → N[i] ≠ s.data.toList) := fun i hi h0 => by omega
      have NV : Hid (∀ v, Below w.heap.size w v → StrsAt v a N) := fun v hb => hN2.out.below hb
      subst ea
      replace hn := Lib.hid hn
      clear n1 n2 n3 n4 n5 n6 n7 h7 hct hres hsz hsd hgd hse hcell hN hl hk hs hN2
      go_enter Tryz.func41, Tryz.ntmps41
      go_wp2_with fail
      refine (RN.out w).mono ?_
      rintro e w1 ⟨rfl, hb1⟩
      replace hb1 := Lib.hid hb1
      go_wp2
      clear a1 b1 a2 b2 a3 b3 a4 b4 a5 b5 a6 b6 a7 b7
      have NS := Lib.hid (NV.out w1 hb1.out)
      go_loop [4, 6] (fun rv iv => ∃ i : Nat, rv = .bool false ∧ iv = .int .i64 (i : Int) ∧ i ≤ k ∧ Hid (∀ j (h : j < N.length), j < i → N[j] ≠ s.data.toList)) (fun _ iv => k - (intOf iv).toNat)
      case atStart => exact ⟨0, rfl, rfl, Nat.zero_le _, H0⟩
      case round =>
        obtain ⟨i, rfl, rfl, hi, hno⟩ := hrel
        clear H0
        by_cases hlt : i < k
        · have hlI : (i : Int) < (k : Int) := by omega
          have hiN : i < N.length := by have := hn.out; omega
          obtain ⟨nb, noff, ena, hnc⟩ := NS.out (by omega)
          have ci := hnc i hiN
          cases ena
          by_cases he : N[i] = s.data.toList
          · have hr := Lib.hid (ST.out i hiN hlt he)
            have hes : (⟨N[i].toArray⟩ : ByteArray) = s := (str_eq _ _).2 he
            rw [hes] at ci
            clear he hes hnc ST FIN hno hiN
            go_wp2
            go_ret
            exact ⟨by rw [hr.out]; rfl, hb1.out⟩
          · have hes : ¬ (⟨N[i].toArray⟩ : ByteArray) = s := fun e => he ((str_eq _ _).1 e)
            have hq := str_no hes
            have hno2 : Hid (∀ j (h : j < N.length), j < i + 1 → N[j] ≠ s.data.toList) := fun j h hj => by
              by_cases e : j = i
              · subst e; exact he
              · exact hno.out j h (by omega)
            generalize (⟨N[i].toArray⟩ : ByteArray) = q at ci hq
            clear he hes hnc ST FIN hno hiN
            go_wp2
            go_round
            case rel => exact ⟨i + 1, rfl, by go_num, by omega, hno2⟩
            case measure => simp [intOf]; omega
        · have hlI : ¬ (i : Int) < (k : Int) := by omega
          have hr := Lib.hid (FIN.out (fun j h hj => hno.out j h (by omega)))
          clear hno FIN ST
          go_wp2
          go_ret
          exact ⟨by rw [hr.out]; rfl, hb1.out⟩
set_option maxRecDepth 8000 in
set_option maxHeartbeats 8000000 in
theorem rtext_form (w : World) (a : Option Addr) (c : Nat) (f : List Nd) (hf : NdAt w a f) (hfl : f.length ≤ 1000) (na : Option Addr) (nc : Nat) (N : List (List UInt8)) (hN : StrsAt w na N) (hNl : N.length ≤ 1000) (hNc : N.length ≤ nc) (hNs : ∀ x ∈ N, x.length ≤ 281474976710656) :
    Calls Tryz.prog 18 #[.slice a f.length c, .slice na N.length nc] w fun e w' => e = .returned (.tuple #[.string ⟨(textP f N).1.toArray⟩, .int .i64 ((textP f N).2 : Int)]) ∧ Below w.heap.size w w' := by
  have CK := Lib.hid (rcheck_any w a c f hf (by omega))
  obtain ⟨rs, hrs⟩ : ∃ rs : ByteArray, rs = ⟨(textP f N).1.toArray⟩ := ⟨_, rfl⟩
  obtain ⟨re, hre⟩ : ∃ re, re = (textP f N).2 := ⟨_, rfl⟩
  rw [← hrs, ← hre]
  by_cases hc : checkP f = 0
  · have hl : f.length ≤ 24 := by unfold checkP at hc; split at hc; cases hc; omega
    have hwr : wrongP f = 0 := by unfold checkP at hc; rw [if_neg (by omega)] at hc; exact hc
    obtain ⟨t0, ht1, ht2, ht3⟩ := tree_of hwr
    have RNG : Hid (∀ i (hi : i < f.length), f[i].1 = 3 → 0 ≤ f[i].2 ∧ f[i].2 < 8) := fun i hi e => by
      have h1 : wrongG f 0 = 0 := by
        unfold wrongP at hwr
        split at hwr
        · cases hwr
        · exact hwr
      exact wrong_range f 0 h1 f[i] (List.getElem_mem hi) e
    have TXP : Hid (∀ r, NeI N f 0 r → (r ≠ 0 → rs = ⟨#[]⟩ ∧ re = r) ∧ (r = 0 → OkN N t0 ∧ rs = ⟨(txt (nmP N) t0).toArray⟩ ∧ re = 0)) := fun r h => by
      have h1 : nameErr N f = r := h
      rw [hrs, hre]
      unfold textP
      rw [if_pos hc, h1]
      refine ⟨fun e => ?_, fun e => ?_⟩
      · rw [if_neg e]; exact ⟨rfl, rfl⟩
      · rw [if_pos e, ht3]
        rw [e, ← ht2] at h1
        exact ⟨⟨ht1, goodN_of N t0 h1⟩, rfl, rfl⟩
    have N0 : Hid (NeI N f 0 (nameErr N f)) := rfl
    generalize nameErr N f = r at N0
    obtain ⟨x1, x2⟩ := TXP.out r N0.out
    rw [hc] at CK
    have WR : Hid (OkN N t0 → ∀ v, Below w.heap.size w v → Calls Tryz.prog 42 #[.slice a f.length c, .slice na N.length nc, .int .i64 ((f.length : Int) - 1), .int .i64 1] v fun e w' => e = .returned (.string ⟨(txt (nmP N) t0).toArray⟩) ∧ Below v.heap.size v w') := fun ok v hb => by
      have h1 := laid_any w a c f na nc N ⟨hf, hN, hNl, hl, hwr⟩ (nmP N) rfl t0 [] [] (by rw [List.nil_append, List.append_nil, ht2]) ok 1 v (by decide) hb
      have hp := t0.post_pos
      rw [List.length_nil, Nat.zero_add, ht2] at h1
      rw [ht2] at hp
      have e1 : ((f.length - 1 : Nat) : Int) = (f.length : Int) - 1 := by omega
      have e2 : brk 1 (txt (nmP N) t0) (bindsP t0.head.1) = txt (nmP N) t0 := by
        unfold brk
        rw [if_neg (by have := binds_pos t0.head.1; omega)]
      rw [e1, e2] at h1
      exact h1
    have MY : Hid (∀ v, Below w.heap.size w v → ∀ i, i < N.length → Calls Tryz.prog 41 #[.slice na N.length nc, .int .i64 (i : Int)] v fun e w' => e = .returned (.bool (mayP N i)) ∧ Below v.heap.size v w') := fun v hb i hi => rmay_any v na nc N (hN.below hb) hNl i hi (hNs _ (by
      have : N.getD i [] = N[i] := by simp [List.getD, List.getElem?_eq_getElem hi]
      rw [this]
      exact List.getElem_mem hi))
    have hfp : 0 < f.length := by rw [← ht2]; exact t0.post_pos
    have ND : Hid (∀ v, Below w.heap.size w v → NdAt v a f) := fun v hb => hf.below hb
    have B0 : Hid (Below w.heap.size w w) := Below.refl _ _
    obtain ⟨n, hn⟩ : ∃ n, n = f.length := ⟨_, rfl⟩
    obtain ⟨nn, hnn⟩ : ∃ nn, nn = N.length := ⟨_, rfl⟩
    rw [← hn] at CK WR ⊢
    rw [← hnn] at WR MY ⊢
    have hnI : (n : Int) ≤ 24 := by omega
    have hn1 : (1 : Int) ≤ (n : Int) := by omega
    have hnnI : (nn : Int) ≤ 1000 := by omega
    replace hn := Lib.hid hn
    replace hnn := Lib.hid hnn
    replace x1 := Lib.hid x1
    replace x2 := Lib.hid x2
    clear TXP hfp hrs hre hc hl hwr ht1 ht2 ht3 hf hfl hN hNl hNc hNs
    go_enter Tryz.func18, Tryz.ntmps18
    go_wp2_with fail
    refine CK.out.mono ?_
    rintro e w1 ⟨rfl, rfl⟩
    rw [show ((0 : Nat) : Int) = 0 from rfl]
    have z1 := B0
    clear CK B0
    go_wp2
    go_loopw [4, 5, 7] (fun sv ev iv wr => ∃ i : Nat, sv = .string ⟨#[]⟩ ∧ ev = .int .i64 0 ∧ iv = .int .i64 (i : Int) ∧ i ≤ n ∧ Hid (NeI N f i r) ∧ Hid (Below w.heap.size w wr)) (fun _ _ iv _ => n - (intOf iv).toNat)
    case atStart => exact ⟨0, rfl, rfl, rfl, Nat.zero_le _, N0, z1⟩
    case round =>
      obtain ⟨i, rfl, rfl, rfl, hi, ne, zr⟩ := hrel
      clear N0 z1
      by_cases hlt : i < n
      · have hlI : (i : Int) < (n : Int) := by omega
        have hif : i < f.length := by have := hn.out; omega
        obtain ⟨b, off, ea, hc⟩ := (ND.out wr zr.out) (by omega)
        have SGN := NdAt.range (hc i hif)
        subst ea
        obtain ⟨s1, s2, s3, s4⟩ := ne.out.step hif
        have RG := RNG.out i hif
        obtain ⟨xy, hxy⟩ : ∃ xy, xy = f[i] := ⟨_, rfl⟩
        rw [← hxy] at SGN s1 s2 s3 s4 RG
        clear hxy
        obtain ⟨x, y⟩ := xy
        dsimp only at SGN s1 s2 s3 s4 RG
        replace SGN := Lib.hid SGN
        replace s1 := Lib.hid s1
        replace s2 := Lib.hid s2
        replace s3 := Lib.hid s3
        replace s4 := Lib.hid s4
        replace RG := Lib.hid RG
        clear hc hif ne
        have c0 := SGN.out 0 _ rfl
        have c1 := SGN.out 1 _ rfl
        rw [Nat.add_zero] at c0
        have zb := zr
        clear SGN zr
        by_cases hx3 : x = 3
        · have hxB : (x == 3) = true := by rw [hx3]; rfl
          obtain ⟨hy0, hy8⟩ := RG.out hx3
          obtain ⟨yn, rfl⟩ : ∃ yn : Nat, y = yn := ⟨y.toNat, by omega⟩
          by_cases hyl : nn ≤ yn
          · have hylI : (nn : Int) ≤ (yn : Int) := by omega
            have hr := s2.out hx3 (by have := hnn.out; omega)
            obtain ⟨e1, e2⟩ := x1.out (by omega)
            have hf1 := Lib.hid e1
            have hf2 := Lib.hid (e2.trans hr)
            clear e1 e2 hr hx3
            go_wp2
            refine bodyPost_ret (v := .tuple #[.string ⟨#[]⟩, .int .i64 8]) (by simp [results, Tryz.results18]) rfl ⟨by rw [hf1.out, hf2.out]; rfl, zb.out⟩
          · have hylI : ¬ (nn : Int) ≤ (yn : Int) := by omega
            have M1 := MY.out wr zb.out yn (by have := hnn.out; omega)
            have hyN : ¬ (N.length : Int) ≤ (yn : Int) := by have := hnn.out; omega
            have s3' := s3.out hx3 hyN
            have s4' := s4.out hx3 hyN
            rw [Int.toNat_natCast] at s3' s4'
            generalize mayP N yn = my at M1 s3' s4'
            replace M1 := Lib.hid M1
            cases my with
            | true =>
              have ne2 := Lib.hid (s3' rfl)
              clear s3' s4' hx3 hyN
              go_wp2_with fail
              refine M1.out.mono ?_
              rintro e w2 ⟨rfl, hb2⟩
              have z2 := Lib.hid (btrans zb.out hb2)
              clear hb2 M1 c0 c1 zb
              go_wp2
              go_roundw
              case rel => exact ⟨i + 1, rfl, rfl, by go_num, by omega, ne2, z2⟩
              case measure => simp [intOf]; omega
            | false =>
              have hr := s4' rfl
              obtain ⟨e1, e2⟩ := x1.out (by omega)
              have hf1 := Lib.hid e1
              have hf2 := Lib.hid (e2.trans hr)
              clear e1 e2 hr hx3 s3' s4' hyN
              go_wp2_with fail
              refine M1.out.mono ?_
              rintro e w2 ⟨rfl, hb2⟩
              have z2 := Lib.hid (btrans zb.out hb2)
              clear hb2 M1 c0 c1 zb
              go_wp2
              refine bodyPost_ret (v := .tuple #[.string ⟨#[]⟩, .int .i64 6]) (by simp [results, Tryz.results18]) rfl ⟨by rw [hf1.out, hf2.out]; rfl, z2.out⟩
        · have hxB : (x == 3) = false := by rw [beq_eq_false_iff_ne]; exact hx3
          have ne2 := Lib.hid (s1.out hx3)
          clear hx3
          go_wp2
          go_roundw
          case rel => exact ⟨i + 1, rfl, rfl, by go_num, by omega, ne2, zb⟩
          case measure => simp [intOf]; omega
      · have hlI : ¬ (i : Int) < (n : Int) := by omega
        have hr := ne.out.fin (by have := hn.out; omega)
        obtain ⟨ok, e1, e2⟩ := x2.out hr
        have W1 := Lib.hid (WR.out ok wr zr.out)
        have hf1 := Lib.hid e1
        have hf2 := Lib.hid e2
        clear e1 e2 hr ok ne
        go_wp2_with fail
        refine W1.out.mono ?_
        rintro e w2 ⟨rfl, hb2⟩
        have z2 := Lib.hid (btrans zr.out hb2)
        rw [← hf1.out]
        go_wp2
        refine bodyPost_ret (v := .tuple #[.string rs, .int .i64 0]) (by simp [results, Tryz.results18]) rfl ⟨by rw [hf2.out]; rfl, z2.out⟩
  · have h1 : rs = ⟨#[]⟩ ∧ re = checkP f := by
      rw [hrs, hre]
      unfold textP
      rw [if_neg hc]
      exact ⟨rfl, rfl⟩
    obtain ⟨e1, e2⟩ := h1
    have hf1 := Lib.hid e1
    have hf2 := Lib.hid e2
    have hcB : ((checkP f : Int) == 0) = false := by rw [beq_eq_false_iff_ne]; omega
    clear e1 e2 hrs hre hc hfl hNl hNc hNs hN hf
    generalize checkP f = ck at CK hcB hf2
    go_enter Tryz.func18, Tryz.ntmps18
    go_wp2_with fail
    have hb1 : Hid (Below w.heap.size w w) := Below.refl _ _
    refine CK.out.mono ?_
    rintro e w1 ⟨rfl, rfl⟩
    go_wp2
    refine bodyPost_ret (v := .tuple #[.string ⟨#[]⟩, .int .i64 (ck : Int)]) (by simp [results, Tryz.results18]) rfl ⟨by rw [hf1.out, hf2.out], hb1.out⟩
end Go.Proofs.YtkehfolcfcbplaaGreatDoor
