/- ltext.Parse, walked: it gives what ParseR says. Conditions: not too many names, no text over 2^48 bytes. -/
import Derived.Test.YtkehfolcfcbplaaGreatDoorSLtR8
namespace Go.Proofs.YtkehfolcfcbplaaGreatDoor
open Go.RowKit
set_option linter.unusedVariables false
set_option linter.unusedSimpArgs false
theorem NdAt.of_own {w : World} {base : Nat} {a : Option Addr} {c : Nat} {f : List Nd} (h : OwnR w base TNd 2 a f.length c (pcells f)) : NdAt w a f := fun h0 => by
 obtain ⟨g, e, _, _⟩ := OwnR.addr h h0
 subst e
 refine ⟨g, 0, rfl, fun i hi => ?_⟩
 obtain ⟨p1, p2⟩ := pcells_at f i hi
 rw [Nat.zero_add]
 exact ⟨(OwnR.cell h (i * 2) (by omega)).trans p1, (OwnR.cell h (i * 2 + 1) (by omega)).trans p2⟩
theorem OwnR.lowB {w : World} {B B' e sz n cap : Nat} {a : Option Addr} {cells : List Value} (h : OwnR w B e sz a n cap cells) (hb : B' ≤ B) : OwnR w B' e sz a n cap cells := by
 unfold OwnR at h ⊢
 refine ⟨h.1, ?_⟩
 rcases h.2 with h2 | ⟨g, e1, e2, e3, e4, e5⟩
 ·exact .inl h2
 ·exact .inr ⟨g, e1, e2, e3, Nat.le_trans hb e4, e5⟩
def ParseV (w : World) (o : List Nd × Nat × Nat) (e : Ending) (w' : World) : Prop := ∃ oa oc, e = .returned (.tuple #[.slice oa o.1.length oc, .int .i64 (o.2.1 : Int), .int .i64 (o.2.2 : Int)]) ∧ OwnR w' w.heap.size TNd 2 oa o.1.length oc (pcells o.1) ∧ Below w.heap.size w w'
theorem ParseV.no {w w' : World} {p e : Nat} {E : Ending} (he : E = .returned (.tuple #[.slice none 0 0, .int .i64 (p : Int), .int .i64 (e : Int)])) (hb : Below w.heap.size w w') : ParseV w ([], p, e) E w' := ⟨none, 0, he, OwnR.nil _ _ _ _, hb⟩
theorem read_start {w1 : World} {la : Option Addr} {lc : Nat} {T : List Tk} {na : Option Addr} {nc : Nat} {N : List (List UInt8)} {en : Nat} (base : Nat) (ho : OwnT w1 base la T.length lc T) (hd : Door w1) (hN : StrsAt w1 na N) (hNl : N.length ≤ 1000) (hNc : N.length ≤ nc) (hNs : ∀ x ∈ N, x.length ≤ 281474976710656) (hl : T.length ≤ 6000) (ht : ∀ t ∈ T, t.kind = 1 → headB isLet t.text = true) :
  RdOk ⟨w1, w1.heap.size, la, lc, T, na, nc, N, en⟩ ∧ ∀ wa, wa = w1.alloc (.cells #[.slice la T.length lc, .int .i64 0, .slice na N.length nc, .int .i64 (en : Int), .int .i64 0, .int .i64 0, .slice none 0 0] TRd) →
   RdS ⟨w1, w1.heap.size, la, lc, T, na, nc, N, en⟩ wa 0 [] none 0 0 0 ∧ Below w1.heap.size w1 wa := by
 refine ⟨⟨TokAt.of_own ho, hN, hd, Nat.le_refl _, hNl, hNc, hNs, hl, ht⟩, fun wa hwa => ?_⟩
 have hb : Below w1.heap.size w1 wa := by rw [hwa]; exact balloc (Below.refl _ _) _
 refine ⟨⟨?_, OwnR.nil _ _ _ _, fun j hj => (by cases hj), hb, Nat.zero_le _, Nat.zero_le _⟩, hb⟩
 rw [hwa]
 exact RowAt.new _ rfl
set_option maxRecDepth 12000 in
set_option maxHeartbeats 16000000 in
theorem parse_form (w : World) (hd : Door w) (s : ByteArray) (hs : s.size ≤ 281474976710656) (na : Option Addr) (nc : Nat) (N : List (List UInt8)) (hN : StrsAt w na N) (hNl : N.length ≤ 1000) (hNc : N.length ≤ nc) (hNs : ∀ x ∈ N, x.length ≤ 281474976710656) (o : List Nd × Nat × Nat) (ho : ParseR s.data.toList N o) :
  Calls Tryz.prog 6 #[.string s, .slice na N.length nc] w fun e w' => ParseV w o e w' := by
 have SC := scan_any w hd s hs
 obtain ⟨L, hL⟩ : ∃ L, L = s.data.toList := ⟨_, rfl⟩
 have hLn : s.size = L.length := by rw [hL, Array.length_toList]; rfl
 rw [← hL] at SC ho
 have hT6 := scan_len L
 have hTl := scan_let L
 unfold ParseR at ho
 obtain ⟨sc, hsc⟩ : ∃ sc, sc = scanLex L := ⟨_, rfl⟩
 rw [← hsc] at SC ho hT6 hTl
 obtain ⟨T, sa, se⟩ := sc
 dsimp only at SC ho hT6 hTl
 have hsI : (s.size : Int) ≤ 281474976710656 := by omega
 have hNI : (N.length : Int) ≤ 1000 := by omega
 have hTI : (T.length : Int) ≤ 6000 := by omega
 by_cases hse : se = 0
 ·rw [if_pos hse] at ho
  subst hse
  obtain ⟨R, hR, hoR⟩ := ho
  obtain ⟨n, hn⟩ := hR
  have hlo := left_suf (prs_left (show goodM (.joint 1) from ⟨by decide, by decide⟩) hn)
  have hdf : Hid (∀ q : ByteArray, q.size ≤ 281474976710656 → ∀ v, Calls Tryz.prog 14 #[.string q, .string s] v fun e w' => e = .returned (.int .i64 (differP q.data.toList L : Int)) ∧ Below v.heap.size v w') := fun q hq v => by
   rw [hL]
   exact differ_any v q s hq
  have CR : Hid (∀ w1 la lc, OwnT w1 w.heap.size la T.length lc T → Below w.heap.size w w1 → ∃ X : RdX, RdOk X ∧ X.W = w1 ∧ X.g = w1.heap.size ∧ X.T = T ∧ X.N = N ∧ X.na = na ∧ X.nc = nc ∧ X.en = L.length ∧ X.la = la ∧ X.lc = lc ∧ ∀ wa, wa = w1.alloc (.cells #[.slice la T.length lc, .int .i64 0, .slice na N.length nc, .int .i64 (s.size : Int), .int .i64 0, .int .i64 0, .slice none 0 0] TRd) → Below w1.heap.size w1 wa ∧ Calls Tryz.prog 11 #[.pointer (some ⟨w1.heap.size, 0, none⟩), .int .i64 1] wa (RdP X R wa [] none 0)) := fun w1 la lc h1 h2 => by
   obtain ⟨k1, k2⟩ := read_start (en := s.size) w.heap.size h1 (hd.below h2) (hN.below h2) hNl hNc hNs hT6 hTl
   refine ⟨⟨w1, w1.heap.size, la, lc, T, na, nc, N, s.size⟩, k1, rfl, rfl, rfl, rfl, rfl, rfl, hLn, rfl, rfl, fun wa hwa => ?_⟩
   obtain ⟨k3, k4⟩ := k2 wa hwa
   exact ⟨k4, (read_all _ k1 n).2 1 R 0 wa [] none 0 (by decide) (by decide) hn k3⟩
  have WRT : Hid (∀ v, Below w.heap.size w v → ∀ (t : Fm) a c, R = .ok t [] → NdAt v a t.post → t.post.length ≤ 24 → Calls Tryz.prog 13 #[.slice a t.post.length c, .slice na N.length nc] v fun e w' => e = .returned (.string ⟨(txt (nmP N) t).toArray⟩) ∧ Below v.heap.size v w') := fun v hv t a c e hna hl => by
   subst e
   exact write_any v (hd.below hv) a c t.post hna na nc N (hN.below hv) hNl t (prs_ok N n (.joint 1) _ t [] (clsL_good N T) (fun k u e => by cases e) hn).1 rfl hl
  have TXL : Hid (∀ t, R = .ok t [] → t.post.length ≤ 24 → (txt (nmP N) t).length ≤ 281474976710656) := fun t e hl => by
   subst e
   have h1 := (txt_len (nmP N) t (goodNm_of N t (prs_ok N n (.joint 1) _ t [] (clsL_good N T) (fun k u e => by cases e) hn).1.2)).1
   omega
  have LOH := Lib.hid hlo
  replace SC := Lib.hid SC
  replace hoR := Lib.hid hoR
  replace hLn := Lib.hid hLn
  replace hL := Lib.hid hL
  clear hd hs hN hNl hNc hNs hTl hsc hn hT6 hlo
  go_enter Tryz.func6, Tryz.ntmps6
  go_wp2_with fail
  refine SC.out.mono ?_
  rintro e w1 ⟨⟨la, lc, rfl, hot⟩, hb1⟩
  obtain ⟨X, hX, xW, xg, xT, xN, xna, xnc, xen, xla, xlc, hcr⟩ := CR.out w1 la lc hot hb1
  clear SC CR
  rw [show ((0 : Nat) : Int) = 0 from rfl]
  obtain ⟨wa, hwa⟩ : ∃ wa, wa = w1.alloc (.cells #[.slice la T.length lc, .int .i64 0, .slice na N.length nc, .int .i64 (s.size : Int), .int .i64 0, .int .i64 0, .slice none 0 0] TRd) := ⟨_, rfl⟩
  obtain ⟨hba, CJ⟩ := hcr wa hwa
  obtain ⟨g, hg⟩ : ∃ g, g = w1.heap.size := ⟨_, rfl⟩
  rw [← hg] at CJ
  replace hwa := Lib.hid hwa
  replace hg := Lib.hid hg
  replace CJ := Lib.hid CJ
  replace hX := Lib.hid hX
  replace hba := Lib.hid hba
  replace hb1 := Lib.hid hb1
  have xg' : Hid (X.g = g) := by show _ = _; rw [xg]; exact hg.out.symm
  replace xW := Lib.hid xW
  replace xT := Lib.hid xT
  replace xN := Lib.hid xN
  replace xna := Lib.hid xna
  replace xnc := Lib.hid xnc
  replace xen := Lib.hid xen
  replace xla := Lib.hid xla
  replace xlc := Lib.hid xlc
  clear hcr xg hot
  go_upto_region 5 with (fail)
  rw [← hwa.out, ← hg.out]
  go_wp2_with fail
  refine CJ.out.mono ?_
  rintro e w3 hpo
  obtain ⟨he, hpq⟩ := RdP.parts.1 hpo
  subst he
  clear CJ hpo
  -- what holds of any later world
  have BEL : Hid (∀ v, Below X.W.heap.size X.W v → Below w.heap.size w v) := fun v hv => by
   rw [xW.out] at hv
   exact btrans hb1.out hv
  cases R with
  | no r =>
   obtain ⟨a3, O3, oa3, oc3, rs3, gr3⟩ := hpq
   obtain ⟨d1, d2⟩ := suf_drop (a := 0) (LOH.out.2 r rfl) (by rw [List.drop_zero])
   have hCl := cls_len N T
   rw [hCl] at d1 d2
   obtain ⟨q1, q2⟩ := stop_same X xen.out (a := T.length - r.length) (r := r) (by rw [xN.out, xT.out]; exact d1) (by rw [xT.out]; omega)
   have hoN : o = ([], stopP L X.N X.T r) := by rw [hoR.out, xN.out, xT.out]; rfl
   rw [xT.out, q1] at rs3
   generalize stopP L X.N X.T r = sp at q2 hoN rs3
   obtain ⟨p, ec⟩ := sp
   dsimp only at q2 rs3
   have bx := BEL.out _ rs3.bel
   have box := rs3.box
   rw [xg'.out] at box
   have c1 : w3.cell? ⟨g, 1, none⟩ = some (.int .i64 (a3 : Int)) := box.cell 1
   have c4 : w3.cell? ⟨g, 4, none⟩ = some (.int .i64 (p : Int)) := box.cell 4
   have c5 : w3.cell? ⟨g, 5, none⟩ = some (.int .i64 (ec : Int)) := box.cell 5
   replace box := Lib.hid box
   have q2B : ((ec : Int) != 0) = true := by rw [bne_iff_ne]; omega
   have q2N : (ec != 0) = true := by rw [bne_iff_ne]; exact q2
   have fin : Hid (∀ v, Below w3.heap.size w3 v → ParseV w o (.returned (.tuple #[.slice none 0 0, .int .i64 (p : Int), .int .i64 (ec : Int)])) v) := fun v hv => by
    rw [hoN]
    exact ParseV.no rfl (btrans bx hv)
   clear hoR hoN bx rs3 gr3 d1 d2 hCl q1 q2 BEL LOH WRT TXL hdf
   simp only [resB]
   go_wp2_with fail
   go_quiet (fail)
   have fq := Lib.hid (fin.out _ (bdrewN (n := nq) (Below.refl w3.heap.size w3)))
   clear fin
   go_wp2
   refine bodyPost_ret (v := .tuple #[.slice none 0 0, .int .i64 (p : Int), .int .i64 (ec : Int)]) (by simp [results, Tryz.results6]) rfl ?_
   exact fq.out
  | ok t r =>
   obtain ⟨oa3, oc3, rs3, gr3⟩ := hpq
   obtain ⟨d1, d2⟩ := suf_drop (a := 0) (LOH.out.1 t r rfl) (by rw [List.drop_zero])
   have hCl := cls_len N T
   rw [hCl] at d1 d2
   rw [xT.out] at rs3
   cases r with
   | cons c r' =>
    obtain ⟨a3, ha3⟩ : ∃ a3, a3 = T.length - (c :: r').length := ⟨_, rfl⟩
    rw [← ha3] at rs3 d1
    have ha : a3 < T.length := by rw [ha3]; simp only [List.length_cons] at d2 ⊢; omega
    obtain ⟨q1, q2⟩ := stop_same X xen.out (a := a3) (r := c :: r') (by rw [xN.out, xT.out]; exact d1) (by rw [xT.out]; omega)
    have hoN : o = ([], stopP L X.N X.T (c :: r')) := by rw [hoR.out, xN.out, xT.out]; rfl
    have ST := stop_any X hX.out w3 a3 _ oa3 oc3 rs3
    unfold StopV at ST
    rw [q1] at ST
    generalize stopP L X.N X.T (c :: r') = sp at q2 hoN ST
    obtain ⟨p, ec⟩ := sp
    dsimp only at q2 ST
    rw [xg'.out] at ST
    have box := rs3.box
    rw [xg'.out] at box
    have c1 : w3.cell? ⟨g, 1, none⟩ = some (.int .i64 (a3 : Int)) := box.cell 1
    have haI : (a3 : Int) < (T.length : Int) := by omega
    have q2B : ((ec : Int) != 0) = true := by rw [bne_iff_ne]; omega
    have q2N : (ec != 0) = true := by rw [bne_iff_ne]; exact q2
    have fin : Hid (∀ v, Below w.heap.size w v → ParseV w o (.returned (.tuple #[.slice none 0 0, .int .i64 (p : Int), .int .i64 (ec : Int)])) v) := fun v hv => by
     rw [hoN]
     exact ParseV.no rfl hv
    replace ST := Lib.hid ST
    replace box := Lib.hid box
    clear hoR hoN rs3 gr3 d1 d2 hCl q1 q2 LOH WRT TXL hdf ha ha3
    simp only [resB]
    go_wp2_with fail
    refine ST.out.mono ?_
    rintro e w4 ⟨rfl, rs4, gr4⟩
    have bx := BEL.out _ rs4.bel
    have box4 := rs4.box
    rw [xg'.out] at box4
    have c4 : w4.cell? ⟨g, 4, none⟩ = some (.int .i64 (p : Int)) := box4.cell 4
    have c5 : w4.cell? ⟨g, 5, none⟩ = some (.int .i64 (ec : Int)) := box4.cell 5
    have fin4 : Hid (∀ v, Below w4.heap.size w4 v → ParseV w o (.returned (.tuple #[.slice none 0 0, .int .i64 (p : Int), .int .i64 (ec : Int)])) v) := fun v hv => fin.out v (btrans bx hv)
    clear rs4 gr4 bx box4 ST fin BEL c1
    go_wp2_with fail
    go_quiet (fail)
    have fq := Lib.hid (fin4.out _ (bdrewN (n := nq) (Below.refl w4.heap.size w4)))
    clear fin4
    go_wp2
    refine bodyPost_ret (v := .tuple #[.slice none 0 0, .int .i64 (p : Int), .int .i64 (ec : Int)]) (by simp [results, Tryz.results6]) rfl ?_
    exact fq.out
   | nil =>
    rw [List.length_nil, Nat.sub_zero] at rs3
    rw [List.nil_append] at rs3
    have bx := BEL.out _ rs3.bel
    have box := rs3.box
    rw [xg'.out] at box
    have c1 : w3.cell? ⟨g, 1, none⟩ = some (.int .i64 (T.length : Int)) := box.cell 1
    have c5 : w3.cell? ⟨g, 5, none⟩ = some (.int .i64 0) := box.cell 5
    have c6 : w3.cell? ⟨g, 6, none⟩ = some (.slice oa3 t.post.length oc3) := box.cell 6
    have hnI : ¬ (T.length : Int) < (T.length : Int) := by omega
    have hnB : decide ((T.length : Int) < (T.length : Int)) = false := decide_eq_false hnI
    have hnN : decide (T.length < T.length) = false := decide_eq_false (by omega)
    have hle3 := rs3.le
    rw [xT.out] at hle3
    have own3 := rs3.own
    rw [xW.out] at own3
    have own3 := OwnR.lowB own3 hb1.out.size
    have nd3 : NdAt w3 oa3 t.post := NdAt.of_own rs3.own
    by_cases h24 : 24 < t.post.length
    ·have h24I : (24 : Int) < (t.post.length : Int) := by omega
     have hoN : o = ([], L.length, 5) := by
      rw [hoR.out]
      show (if 24 < t.post.length then _ else _) = _
      rw [if_pos h24]
     have fin : Hid (ParseV w o (.returned (.tuple #[.slice none 0 0, .int .i64 (s.size : Int), .int .i64 5])) w3) := by
      show ParseV _ _ _ _
      rw [hoN]
      exact ParseV.no (by rw [hLn.out]; rfl) bx
     generalize t.post.length = pn at c6 h24I
     replace box := Lib.hid box
     clear hoR hoN bx rs3 gr3 d1 d2 hCl LOH WRT TXL hdf h24 own3 nd3 hle3 BEL
     simp only [resB]
     go_wp2
     refine bodyPost_ret (v := .tuple #[.slice none 0 0, .int .i64 (s.size : Int), .int .i64 5]) (by simp [results, Tryz.results6]) rfl ?_
     exact fin.out
    ·have h24I : ¬ (24 : Int) < (t.post.length : Int) := by omega
     have W1 := WRT.out w3 bx t oa3 oc3 rfl nd3 (by omega)
     have hxl := TXL.out t rfl (by omega)
     obtain ⟨x, hx⟩ : ∃ x : ByteArray, x = ⟨(txt (nmP N) t).toArray⟩ := ⟨_, rfl⟩
     rw [← hx] at W1
     have hxs : x.data.toList = txt (nmP N) t := by rw [hx]
     have hxn : x.size ≤ 281474976710656 := by
      have : x.size = x.data.toList.length := by rw [Array.length_toList]; rfl
      rw [this, hxs]
      exact hxl
     obtain ⟨pn, hpn⟩ : ∃ pn, pn = t.post.length := ⟨_, rfl⟩
     rw [← hpn] at c6 W1 h24I
     by_cases hxe : txt (nmP N) t = L
     ·have hq : x = s := by
       rw [hx]
       exact (str_eq _ _).2 (hxe.trans hL.out)
      have hoN : o = (t.post, 0, 0) := by
       rw [hoR.out]
       show (if 24 < t.post.length then _ else if txt (nmP N) t = L then _ else _) = _
       rw [if_neg h24, if_pos hxe]
      have fin : Hid (∀ v, Below w3.heap.size w3 v → v.cell? ⟨g, 6, none⟩ = some (.slice oa3 pn oc3) ∧ ParseV w o (.returned (.tuple #[.slice oa3 pn oc3, .int .i64 0, .int .i64 0])) v) := fun v hv => by
       refine ⟨bcell hv c6, ?_⟩
       rw [hoN, hpn]
       exact ⟨oa3, oc3, rfl, OwnR.keeps (S := fun _ => False) own3 (Keeps.of_below hv) (fun _ _ e => e), btrans bx hv⟩
      subst hq
      replace W1 := Lib.hid W1
      replace box := Lib.hid box
      replace hpn := Lib.hid hpn
      clear hoR hoN bx rs3 gr3 d1 d2 hCl LOH WRT TXL hdf h24 own3 nd3 hle3 BEL hxe hxs hxn hxl hx
      simp only [resB]
      go_wp2_with fail
      refine W1.out.mono ?_
      rintro e w4 ⟨rfl, hb4⟩
      obtain ⟨c64, hf⟩ := fin.out w4 hb4
      replace hf := Lib.hid hf
      clear fin hb4 W1 c1 c5 c6
      go_wp2
      refine bodyPost_ret (v := .tuple #[.slice oa3 pn oc3, .int .i64 0, .int .i64 0]) (by simp [results, Tryz.results6]) rfl ?_
      exact hf.out
     ·have hq : ¬ x = s := fun e => hxe (by rw [← hxs, e, hL.out])
      have hqB := str_no hq
      have hoN : o = ([], differP (txt (nmP N) t) L, 13) := by
       rw [hoR.out]
       show (if 24 < t.post.length then _ else if txt (nmP N) t = L then _ else _) = _
       rw [if_neg h24, if_neg hxe]
      have DF : Hid (∀ v, Calls Tryz.prog 14 #[.string x, .string s] v fun e w' => e = .returned (.int .i64 (differP (txt (nmP N) t) L : Int)) ∧ Below v.heap.size v w') := fun v => by
       rw [← hxs]
       exact hdf.out x hxn v
      have fin : Hid (∀ v, Below w3.heap.size w3 v → ParseV w o (.returned (.tuple #[.slice none 0 0, .int .i64 (differP (txt (nmP N) t) L : Int), .int .i64 13])) v) := fun v hv => by
       rw [hoN]
       exact ParseV.no rfl (btrans bx hv)
      generalize differP (txt (nmP N) t) L = dp at DF fin
      replace W1 := Lib.hid W1
      replace box := Lib.hid box
      replace hpn := Lib.hid hpn
      clear hoR hoN bx rs3 gr3 d1 d2 hCl LOH WRT TXL hdf h24 own3 nd3 hle3 BEL hxe hxs hxn hxl hx hq
      simp only [resB]
      go_wp2_with fail
      refine W1.out.mono ?_
      rintro e w4 ⟨rfl, hb4⟩
      replace hb4 := Lib.hid hb4
      clear W1 c1 c5 c6
      go_wp2_with fail
      refine (DF.out w4).mono ?_
      rintro e w5 ⟨rfl, hb5⟩
      have hf := Lib.hid (fin.out w5 (btrans hb4.out hb5))
      clear fin hb4 hb5 DF
      go_wp2
      refine bodyPost_ret (v := .tuple #[.slice none 0 0, .int .i64 (dp : Int), .int .i64 13]) (by simp [results, Tryz.results6]) rfl ?_
      exact hf.out
 ·rw [if_neg hse] at ho
  have seB : ((se : Int) != 0) = true := by rw [bne_iff_ne]; omega
  have seN : (se != 0) = true := by rw [bne_iff_ne]; exact hse
  replace SC := Lib.hid SC
  replace ho := Lib.hid ho
  clear hd hs hN hNl hNc hNs hTl hsc hT6 hLn hL hse
  go_enter Tryz.func6, Tryz.ntmps6
  go_wp2_with fail
  refine SC.out.mono ?_
  rintro e w1 ⟨⟨la, lc, rfl, hot⟩, hb1⟩
  have fin : Hid (ParseV w o (.returned (.tuple #[.slice none 0 0, .int .i64 (sa : Int), .int .i64 (se : Int)])) w1) := by
   show ParseV _ _ _ _
   rw [ho.out]
   exact ParseV.no rfl hb1
  clear SC hot hb1 ho
  go_wp2
  refine bodyPost_ret (v := .tuple #[.slice none 0 0, .int .i64 (sa : Int), .int .i64 (se : Int)]) (by simp [results, Tryz.results6]) rfl ?_
  exact fin.out
end Go.Proofs.YtkehfolcfcbplaaGreatDoor
