/- An automaton is read of a text, walked: the document's Parse. Conditions: what the listed variables hold; short texts. -/
import Derived.Test.YtjacphcnanopjaaDoorAtW
namespace Go.Proofs.YtjacphcnanopjaaDoor
open Go.Shelf Go.RowKit
set_option linter.unusedVariables false
set_option linter.unusedSimpArgs false

abbrev zAU : List Value := [.int .i64 0, .slice none 0 0, .slice none 0 0]
/-- the reading, as far as it goes -/
structure RdM (w : World) (g : Nat) (CP ls : List (List UInt8)) (oa : Option Addr) (oc : Nat) (k : Nat) (wr : World) : Prop where
  st : ∃ B ia ic na nc cells, AuB AUT wr w.heap.size g B ia ic na nc cells ∧ readP au0 0 ls = readP B k (ls.drop k) ∧ AuRd B k 20000
  row : OwnR wr w.heap.size TStr 1 oa CP.length oc (strV CP)
  bel : Below w.heap.size w wr
theorem neUI : TInt ≠ AUT := by decide
theorem neUA : TAn ≠ AUT := by decide
theorem OwnR.tameU {T base b2 n cap U sz : Nat} {w w' : World} {a : Option Addr} {cells : List Value} (h : OwnR w b2 U sz a n cap cells) (k : Tame T base w w') (hT : U ≠ T) (hA : U ≠ TAn) : OwnR w' b2 U sz a n cap cells :=
  OwnR.keeps h k (fun j hj hm => by
    obtain ⟨_, c, hc⟩ := own_type h hj
    obtain ⟨_, c2, fz, h2 | h2⟩ := hm
    · rw [hc] at h2; injection h2 with h2; injection h2 with _ h2 _; exact hA h2
    · rw [hc] at h2; injection h2 with h2; injection h2 with _ h2 _; exact hT h2)
theorem RdM.below {w wr w' : World} {g : Nat} {CP ls : List (List UInt8)} {oa : Option Addr} {oc k : Nat} (R : RdM w g CP ls oa oc k wr) (hb : Below wr.heap.size wr w') : RdM w g CP ls oa oc k w' := by
  obtain ⟨B, ia, ic, na, nc, cells, h1, h2, h3⟩ := R.st
  exact ⟨⟨B, ia, ic, na, nc, cells, h1.below hb neUI, h2, h3⟩, OwnR.keeps (S := fun _ => False) R.row (Keeps.of_below hb) (fun _ _ e => e), btrans R.bel hb⟩
/-- a line more -/
theorem RdM.next {w wr w' : World} {g : Nat} {CP ls : List (List UInt8)} {oa : Option Addr} {oc k : Nat} {B C : AU} (hk : k < ls.length) (hr : readP au0 0 ls = readP B k (ls.drop k)) (hB : AuRd B k 20000) (hp : ∀ f ∈ ls, f.length ≤ 20000) (ho : lineP B k (cutP 32 ls[k]) = some C) {ia : Option Addr} {ic : Nat} {na : Option Addr} {nc : Nat} {cells : List Value} (S : AuB AUT w' w.heap.size g C ia ic na nc cells) (hrow : OwnR wr w.heap.size TStr 1 oa CP.length oc (strV CP)) (hb : Below w.heap.size w wr) (tm : Tame AUT w.heap.size wr w') : RdM w g CP ls oa oc (k + 1) w' := by
  rw [List.drop_eq_getElem_cons hk, readP, ho] at hr
  exact ⟨⟨C, ia, ic, na, nc, cells, S, hr, line_some ho hB (Nat.le_trans (cut_len 32 _) (by have := hp _ (List.getElem_mem hk); omega))⟩, OwnR.tameU hrow tm (by decide) (by decide), tm.below hb (Nat.le_refl _)⟩
theorem AuAt.keepsBox {T : Nat} {w w' : World} {base g h : Nat} {A : AU} {ia : Option Addr} {ic : Nat} {na : Option Addr} {nc : Nat} {cells l : List Value} (_ : AuAt w ia A.init.length na A.nodes.length A) (S : AuB T w base g A ia ic na nc cells) (k : Keeps w w' (fun j => j = h)) (r : RowAt w h T l) (hgh : h ≠ g) (hTI : TInt ≠ T := by decide) (hTA : TAn ≠ T := by decide) : AuAt w' ia A.init.length na A.nodes.length A := by
  have tm : Tame T 0 w w' := Tame.box k (Nat.zero_le _) r
  have S' : AuB T w' base g A ia ic na nc cells := ⟨RowAt.keeps S.box k (fun e => hgh e.symm), S.lo, S.init.tame tm hTI, OwnR.keeps S.own k (fun j hj e => by
    obtain ⟨_, c, hc⟩ := own_type S.own hj
    rw [e, show w.heap[h]? = _ from r] at hc
    injection hc with hc
    injection hc with _ hc _
    exact hTA hc.symm), S.nds.tame tm hTI⟩
  exact S'.au
theorem RdM.stop {ls : List (List UInt8)} {k : Nat} {B : AU} (hk : k < ls.length) (hr : readP au0 0 ls = readP B k (ls.drop k)) (ho : lineP B k (cutP 32 ls[k]) = none) : readP au0 0 ls = .inr k := by
  rw [List.drop_eq_getElem_cons hk, readP, ho] at hr
  exact hr
set_option maxRecDepth 12000 in
set_option maxHeartbeats 32000000 in
theorem rparse_any (w : World) (hd : Door w) (s : ByteArray) (hs : s.size ≤ 21000) :
    Calls Tryd.prog 13 #[.string s] w fun e w' => ParsV w (parseP s.data.toList) e w' := by
  obtain ⟨L, hL⟩ : ∃ L, L = s.data.toList := ⟨_, rfl⟩
  have hLn : s.size = L.length := by rw [hL, Array.length_toList]; rfl
  obtain ⟨o, ho⟩ : ∃ o, o = parseP s.data.toList := ⟨_, rfl⟩
  rw [← ho]
  rw [← hL] at ho
  unfold parseP at ho
  have hsI : (s.size : Int) ≤ 21000 := by omega
  obtain ⟨g2, hg2⟩ : ∃ g2, g2 = w.heap.size := ⟨_, rfl⟩
  obtain ⟨w1, hw1⟩ : ∃ w1, w1 = w.alloc (.cells #[.int .i64 0, .slice none 0 0, .slice none 0 0] AUT) := ⟨_, rfl⟩
  have r1 : RowAt w1 g2 AUT zAU := by rw [hw1]; exact RowAt.new #[.int .i64 0, .slice none 0 0, .slice none 0 0] hg2
  have B1 : Below w.heap.size w w1 := by rw [hw1]; exact balloc (Below.refl _ _) _
  by_cases h20 : 20000 < s.size
  · have h20I : (20000 : Int) < (s.size : Int) := by omega
    rw [if_pos (by omega)] at ho
    subst ho
    have q5 := r1
    have B5 := B1
    replace hw1 := Lib.hid hw1
    replace hg2 := Lib.hid hg2
    clear h20 hLn hL hs hd r1 B1
    go_enter Tryd.func13, Tryd.ntmps13
    go_upto_region 2 with (fail)
    rw [← hw1.out, ← hg2.out]
    refine wp_region_list ?_
    refine wpList_plain rfl (fun K hK => ?_)
    go_simp
    refine hK _ _ ?_
    clear hK K
    refine list_store (l := zAU) infoAU q5 rfl rfl (au3_one _ _ _ rfl rfl) rfl 2 20 rfl rfl rfl ?_
    intro w6 q6 k6
    have fin : Hid (ParsV w (au0, 0, 5) (.returned (.tuple #[.agg #[.int .i64 0, .slice none 0 0, .slice none 0 0], .int .i64 ((0 : Nat) : Int), .int .i64 5])) w6) := ParsV.no (k6.below B5 (fun j hj => by rw [hj, hg2.out]; exact Nat.le_refl _))
    have q6' := Lib.hid q6
    clear q5 B5 k6 q6
    refine wpList_plain rfl (fun K hK => ?_)
    go_simp
    refine hK _ _ ?_
    clear hK K
    refine wpList_plain rfl (fun K hK => ?_)
    go_simp
    refine hK _ _ ?_
    clear hK K
    refine wpList_nil ?_
    go_wp2
    refine bodyPost_ret (v := .tuple #[.agg (zAU).toArray, .int .i64 ((0 : Nat) : Int), .int .i64 5]) (results_ctt (a := 2) (b := 3) (c := 4) (by kernel_rfl) rfl rfl rfl (loadVar_whole undAU infoAU q6'.out rfl)) rfl ?_
    exact fin.out
  · have h20I : ¬ (20000 : Int) < (s.size : Int) := by omega
    rw [if_neg (by omega)] at ho
    obtain ⟨CP, hCP⟩ : ∃ CP, CP = cutP 10 L := ⟨_, rfl⟩
    have CT : Hid (Calls Tryd.prog 27 #[.string s, .int .u8 10] w1 fun e w' => GivesS w1 CP e w') := by
      have h1 := rcut_any w1 s (by omega) 10
      rw [← hL, ← hCP] at h1
      exact h1
    rw [← hCP] at ho
    have hcl : CP.length ≤ 20001 := by rw [hCP]; have := cut_len 10 L; omega
    have hc0 : 0 < CP.length := by rw [hCP]; exact List.length_pos_iff.2 (cut_ne 10 L)
    by_cases hlast : L.getLast? = some 10
    · rw [if_neg (fun h => h hlast)] at ho
      have hne : ¬ s.toList = [] := fun e => by rw [ByteArray.toList_eq, ← hL] at e; rw [e] at hlast; cases hlast
      have hnE : s.toList.isEmpty = false := by
        cases h : s.toList with
        | nil => exact absurd h hne
        | cons a b => rfl
      have hs0 : 0 < s.size := by
        rcases Nat.eq_zero_or_pos s.size with h | h
        · rw [hLn] at h; rw [List.eq_nil_of_length_eq_zero h] at hlast; cases hlast
        · exact h
      have hi0 : s.size - 1 < s.size := by omega
      have hlb : s[s.size - 1]'hi0 = 10 := by
        rw [data_at s (s.size - 1) hi0 (by rw [← hL, ← hLn]; exact hi0)]
        have h1 := List.getLast?_eq_getElem? (l := L)
        rw [hlast, ← hLn] at h1
        have h2 : L[s.size - 1]? = some (L[s.size - 1]'(by rw [← hLn]; exact hi0)) := List.getElem?_eq_getElem _
        rw [h2] at h1
        injection h1 with h1
        subst hL
        exact h1.symm
      have f1 : (((s[s.size - 1]'hi0).toNat : Int) != 10) = false := by rw [hlb]; rfl
      have f2 : ((s[s.size - 1]'hi0).toNat != 10) = false := by rw [hlb]; rfl
      obtain ⟨ls, hls⟩ : ∃ ls, ls = CP.dropLast := ⟨_, rfl⟩
      rw [← hls] at ho
      have hlsl : ls.length + 1 = CP.length := by rw [hls, List.length_dropLast]; omega
      have hlsp : ∀ f ∈ ls, f.length ≤ 20000 := fun f hf => by
        have h1 := piece_len L 10 f (by rw [← hCP]; rw [hls] at hf; exact List.dropLast_subset _ hf)
        omega
      have hget : ∀ k (hk : k < ls.length), (strV CP)[k]? = some (.string ⟨ls[k].toArray⟩) := fun k hk => by
        have h1 : k < CP.length := by omega
        rw [strV_at CP k h1]
        have e : ls[k] = CP[k] := by
          subst hls
          rw [List.getElem_dropLast]
        rw [e]
      have CT2 : Hid (∀ v, ∀ k (hk : k < ls.length), Calls Tryd.prog 27 #[.string ⟨ls[k].toArray⟩, .int .u8 32] v fun e w' => GivesS v (cutP 32 ls[k]) e w') := fun v k hk => by
        have h1 := rcut_any v ⟨ls[k].toArray⟩ (by have := hlsp _ (List.getElem_mem hk); show ls[k].toArray.size ≤ _; rw [List.size_toArray]; omega) 32
        exact h1
      have hCPne : 1 ≤ CP.length := hc0
      obtain ⟨m, hm⟩ : ∃ m, m = CP.length := ⟨_, rfl⟩
      obtain ⟨n, hn⟩ : ∃ n, n = ls.length := ⟨_, rfl⟩
      have hmn : m = n + 1 := by omega
      have hnI : (n : Int) ≤ 20001 := by omega
      have hs1I : (1 : Int) ≤ (s.size : Int) := by omega
      have wr1 : IntKind.i64.wrap ((s.size : Int) - 1) = (s.size : Int) - 1 := IntWalk.i64_in _ (by omega)
      have tn1 : ((s.size : Int) - 1).toNat = s.size - 1 := by omega
      have ge0 : (0 : Int) ≤ (s.size : Int) - 1 := by omega
      have lt0 : (s.size : Int) - 1 < (s.size : Int) := by omega
      replace B1 := Lib.hid B1
      replace hw1 := Lib.hid hw1
      replace hg2 := Lib.hid hg2
      replace r1 := Lib.hid r1
      replace hm := Lib.hid hm
      replace hn := Lib.hid hn
      replace hlsp := Lib.hid hlsp
      replace hget := Lib.hid hget
      replace ho := Lib.hid ho
      replace hd := Lib.hid hd
      replace hmn := Lib.hid hmn
      replace hs0 := Lib.hid hs0
      clear hls hlast h20 hL hs hlsl hc0 hcl hne hlb hCP hLn hCPne
      go_enter Tryd.func13, Tryd.ntmps13
      go_upto_region 3 with (fail)
      rw [← hw1.out, ← hg2.out]
      go_wp2_with fail
      refine CT.out.mono ?_
      rintro e w2 ⟨oa, oc, rfl, own2, hb2⟩
      have hcap := (OwnR.caps own2).1
      have own2' : OwnR w2 w.heap.size TStr 1 oa CP.length oc (strV CP) := OwnR.lowB own2 B1.out.size
      rw [← hm.out] at hcap ⊢
      have hmc : n ≤ oc := by have := hmn.out; omega
      have hmI : IntKind.i64.wrap ((m : Int) - 1) = (n : Int) := by have := hmn.out; rw [IntWalk.i64_in _ (by omega)]; omega
      have hmI2 : (m : Int) - 1 = (n : Int) := by have := hmn.out; omega
      have RC := fun v => run_cut_h (P := Tryd.prog) (kh := .i64) (H := (n : Int)) Tryd.underlying41 Tryd.sizeStr oa m oc n rfl hmc v
      have B2 := btrans B1.out hb2
      obtain ⟨g, hg⟩ : ∃ g, g = w2.heap.size := ⟨_, rfl⟩
      obtain ⟨w3, hw3⟩ : ∃ w3, w3 = w2.alloc (.cells #[.int .i64 0, .slice none 0 0, .slice none 0 0] AUT) := ⟨_, rfl⟩
      have r3 : RowAt w3 g AUT zAU := by rw [hw3]; exact RowAt.new #[.int .i64 0, .slice none 0 0, .slice none 0 0] hg
      have b3 : Below w2.heap.size w2 w3 := by rw [hw3]; exact balloc (Below.refl _ _) _
      have hgg : Hid (g2 < g ∧ w.heap.size ≤ g2) := ⟨by have h2 := r1.out.lt; have := hb2.size; omega, by rw [hg2.out]; exact Nat.le_refl _⟩
      have r23 := (r1.out.below hb2).below b3
      have own3 : OwnR w3 w.heap.size TStr 1 oa CP.length oc (strV CP) := OwnR.keeps (S := fun _ => False) own2' (Keeps.of_below b3) (fun _ _ e => e)
      have B3 := btrans B2 b3
      replace own3 := Lib.hid own3
      replace B3 := Lib.hid B3
      replace r23 := Lib.hid r23
      replace hg := Lib.hid hg
      replace hw3 := Lib.hid hw3
      replace r3 := Lib.hid r3
      clear own2 own2' B2 b3 hb2 r1 B1 CT
      go_upto_region 7 with (fail)
      refine wp_region_list ?_
      refine wpList_plain rfl (fun K hK => ?_)
      go_simp
      refine hK _ _ ?_
      clear hK K
      refine wpList_plain rfl (fun K hK => ?_)
      go_simp
      refine hK _ _ ?_
      clear hK K
      rw [← hw3.out, ← hg.out]
      refine list_store (l := zAU) infoAU r3.out rfl rfl (au3_one _ _ _ rfl rfl) rfl 6 42 rfl rfl rfl ?_
      intro w4 q4 k4
      refine wpList_nil ?_
      have own4 : OwnR w4 w.heap.size TStr 1 oa CP.length oc (strV CP) := OwnR.keeps own3.out k4 (fun j hj e => by have h1 := (OwnR.lt own3.out hj).2; obtain ⟨_, c, hc⟩ := own_type own3.out hj; rw [e, show w3.heap[g]? = _ from r3.out] at hc; injection hc with hc; injection hc with _ hc _; exact absurd hc (by decide))
      have B4 : Below w.heap.size w w4 := k4.below B3.out (fun j hj => by rw [hj]; have := hgg.out; omega)
      have R0 : Hid (RdM w g CP ls oa oc 0 w4) := ⟨⟨au0, none, 0, none, 0, [], ⟨q4, by have := hgg.out; omega, OwnN.nil _ _ _ _, OwnR.nil _ _ _ _, rfl⟩, by rw [List.drop_zero], au0_rd _⟩, own4, B4⟩
      have r24 : Hid (RowAt w4 g2 AUT zAU) := RowAt.keeps r23.out k4 (by have := hgg.out; omega)
      clear own3 own4 B3 B4 r23 r3 q4 k4 hmI hmI2 wr1 f1 f2 hnE hs0
      go_wp2
      go_loopw [3, 4, 7] (fun av cv iv wr => ∃ k : Nat, av = .int .i64 0 ∧ cv = .int .i64 0 ∧ iv = .int .i64 (k : Int) ∧ k ≤ n ∧ Hid (RdM w g CP ls oa oc k wr) ∧ Hid (RowAt wr g2 AUT zAU)) (fun _ _ iv _ => n - (intOf iv).toNat)
      case atStart => exact ⟨0, rfl, rfl, rfl, Nat.zero_le _, R0, r24⟩
      case round =>
        obtain ⟨k, rfl, rfl, rfl, hk, R, rg2⟩ := hrel
        clear R0 r24
        by_cases hlt : k < n
        · have hlI : (k : Int) < (n : Int) := by omega
          have hkN : k < ls.length := by have := hn.out; omega
          obtain ⟨B, ia, ic, na, nc, cells, S, hr, hB⟩ := R.out.st
          obtain ⟨lb, el, _, _⟩ := OwnR.addr R.out.row (by rw [← hm.out]; have := hmn.out; omega)
          have hrw := R.out.row
          have bel := R.out.bel
          subst el
          have ck : wr.cell? ⟨lb, k, none⟩ = some (.string ⟨(ls[k]'hkN).toArray⟩) := (OwnR.cell hrw k (by rw [← hm.out]; have := hmn.out; omega)).trans (hget.out k hkN)
          have C1 := Lib.hid (CT2.out wr k hkN)
          obtain ⟨p1, p2, p3⟩ := piece_all (hlsp.out _ (List.getElem_mem hkN))
          have NEXT := fun (C : AU) (hh : lineP B k (cutP 32 ls[k]) = some C) (w' : World) (ia : Option Addr) (ic : Nat) (na : Option Addr) (nc : Nat) (cells : List Value) (S : AuB AUT w' w.heap.size g C ia ic na nc cells) (tm : Tame AUT w.heap.size wr w') => RdM.next (oc := oc) hkN hr hB hlsp.out hh S hrw bel tm
          have STP := fun hh => RdM.stop hkN hr hh
          obtain ⟨F, hF⟩ : ∃ F, F = cutP 32 ls[k] := ⟨_, rfl⟩
          have hlN := hB.len
          rw [← hF] at C1 p1 p2 p3 NEXT STP
          generalize (⟨(ls[k]'hkN).toArray⟩ : ByteArray) = q at ck C1
          obtain ⟨f0, hf0⟩ : ∃ f0, f0 = F[0]'p1 := ⟨_, rfl⟩
          obtain ⟨qf, hqf⟩ : ∃ q : ByteArray, q = ⟨f0.toArray⟩ := ⟨_, rfl⟩
          have hqfd : qf.data.toList = f0 := by rw [hqf]
          have RC1 := fun fa fc v => run_cut_l (P := Tryd.prog) (kl := .i64) (L := (1 : Int)) Tryd.underlying41 Tryd.sizeStr fa F.length fc 1 rfl p1 v
          have NUM : Hid (∀ v, Below w.heap.size w v → ∀ fa fc, F.length ≤ fc → StrsAt v fa F → Calls Tryd.prog 28 #[.slice (cutA fa fc 1 1) (F.length - 1) (fc - 1)] v (NumsV v (numsP F.tail))) := fun v hb fa fc hfc hfs => by
            have h1 := rnumbers_any v (hd.out.below hb) (cutA fa fc 1 1) (fc - 1) (F.drop 1) (hfs.cut hfc) (by rw [List.length_drop]; omega) (fun f hf => p3 f (List.mem_of_mem_drop hf))
            rw [List.length_drop, List.drop_one] at h1
            exact h1
          have NOD : Hid (∀ v, Below w.heap.size w v → ∀ fa fc, F.length ≤ fc → StrsAt v fa F → Calls Tryd.prog 29 #[.slice (cutA fa fc 1 1) (F.length - 1) (fc - 1)] v fun e w' => RNodeV v (nodeP ⟨0, 0, 0, []⟩ F.tail) e w') := fun v hb fa fc hfc hfs => by
            have h1 := rnode_any v (hd.out.below hb) (cutA fa fc 1 1) (fc - 1) (F.drop 1) (hfs.cut hfc) (by rw [List.length_drop]; omega) (by rw [List.length_drop]; omega) (fun f hf => p3 f (List.mem_of_mem_drop hf))
            rw [List.length_drop, List.drop_one] at h1
            exact h1
          have CF : Hid (∀ v ga fc, OwnR v wr.heap.size TStr 1 (some ⟨ga, 0, none⟩) F.length fc (strV F) → v.cell? ⟨ga, 0, none⟩ = some (.string qf)) := fun v ga fc hov => by
            rw [OwnR.cell hov 0 (by omega), strV_at F 0 p1, hqf, hf0]
          have FA : Hid (∀ v fa fc, OwnR v wr.heap.size TStr 1 fa F.length fc (strV F) → ∃ ga, fa = some ⟨ga, 0, none⟩) := fun v fa fc hov => by
            obtain ⟨ga, e, _⟩ := OwnR.addr hov p1
            exact ⟨ga, e⟩
          have hfI : (1 : Int) ≤ (F.length : Int) := by omega
          have hfN : 0 < F.length := p1
          have l0 := line_0 B F p1
          have l1 := line_1 B F p1
          have ln2 := fun i hi => line_n B i hi F p1
          rw [← hf0] at l0 l1 ln2
          generalize hnm : numsP F.tail = nm at NUM l0 l1
          generalize hno : nodeP ⟨0, 0, 0, []⟩ F.tail = no at NOD ln2
          have hS := Lib.hid S
          have hbel := Lib.hid bel
          replace NEXT := Lib.hid NEXT
          replace STP := Lib.hid STP
          replace hlN := Lib.hid hlN
          clear R hr hB hrw hF hnm hno hkN p2 p3 S bel hqf CT2
          by_cases k0 : k = 0
          · subst k0
            clear ln2 l1 NOD
            go_wp2_with fail
            refine C1.out.mono ?_
            rintro e w4 ⟨fa, fc, rfl, own4, hb4⟩
            have hfc := (OwnR.caps own4).1
            have RC2 := RC1 fa fc
            clear RC1 C1
            go_wp2_with fail
            refine (NUM.out w4 (btrans hbel.out hb4) _ _ hfc (StrsAt.of_own own4)).mono ?_
            rintro e w5 hnm
            obtain ⟨xa, xn, xc, bb, rfl, hb5, hway⟩ := hnm.any2
            clear hnm NUM RC2
            have own5 : OwnR w5 wr.heap.size TStr 1 fa F.length fc (strV F) := OwnR.keeps (S := fun _ => False) own4 (Keeps.of_below hb5) (fun _ _ e => e)
            obtain ⟨ga, efa⟩ := FA.out w5 fa fc own5
            subst efa
            have cf := CF.out w5 ga fc own5
            clear own5 CF FA
            by_cases hw : f0 = [97, 117, 116, 111]
            · have hqs : qf = ⟨#[97, 117, 116, 111]⟩ := take_eta (hqfd.trans hw)
              subst hqs
              rw [if_pos hw] at l0
              rcases hway with ⟨hn1, hb1⟩ | ⟨xs, hn1, hb1, hxn, hxs⟩
              · subst hb1
                have hst := STP.out (by rw [l0, hn1]; rfl)
                clear NEXT STP hw hqfd l0 hn1
                have ho2 := ho.out
                rw [hst] at ho2
                dsimp only at ho2
                subst ho2
                have q5 := (rg2.out.below hb4).below hb5
                have B5 := btrans (btrans hbel.out hb4) hb5
                clear hst ho hS hb4 hb5 own4 rg2
                go_upto_region 24 with (fail)
                refine wp_region_list ?_
                refine wpList_plain rfl (fun K hK => ?_)
                go_simp
                refine hK _ _ ?_
                clear hK K
                refine wpList_plain rfl (fun K hK => ?_)
                go_simp
                refine hK _ _ ?_
                clear hK K
                refine list_store (l := zAU) infoAU q5 rfl rfl (au3_one _ _ _ rfl rfl) rfl 2 125 rfl rfl rfl ?_
                intro w6 q6 k6
                have fin : Hid (ParsV w (au0, 0, 3) (.returned (.tuple #[.agg #[.int .i64 0, .slice none 0 0, .slice none 0 0], .int .i64 ((0 : Nat) : Int), .int .i64 3])) w6) := ParsV.no (k6.below B5 (fun j hj => by rw [hj, hg2.out]; exact Nat.le_refl _))
                have q6' := Lib.hid q6
                clear q5 B5 k6 q6
                refine wpList_plain rfl (fun K hK => ?_)
                go_simp
                refine hK _ _ ?_
                clear hK K
                refine wpList_plain rfl (fun K hK => ?_)
                go_simp
                refine hK _ _ ?_
                clear hK K
                refine wpList_nil ?_
                go_wp2
                refine bodyPost_ret (v := .tuple #[.agg (zAU).toArray, .int .i64 ((0 : Nat) : Int), .int .i64 3]) (results_ctt (a := 2) (b := 3) (c := 4) (by kernel_rfl) rfl rfl rfl (loadVar_whole undAU infoAU q6'.out rfl)) rfl ?_
                exact fin.out
              · subst hb1
                by_cases h1 : xs.length = 1
                · obtain ⟨v, rfl⟩ : ∃ v, xs = [v] := by
                    match xs, h1 with
                    | [v], _ => exact ⟨v, rfl⟩
                  have hx1 : xn = 1 := hxn
                  subst hx1
                  obtain ⟨xb, xo, x, eo, cx, hx⟩ := (NumsAt.of_owns hxs).at 0 (by simp)
                  rw [Nat.add_zero] at cx
                  have hx2 : x = v := by rw [hx.out]; rfl
                  subst hx2
                  have S5 := (hS.out.below hb4 neUI).below hb5 neUI
                  have d2 : w5.cell? ⟨g, 0, none⟩ = some (.int .i64 B.sets) := S5.box.cell 0
                  have df2 := S5.box.free 0
                  have bx := S5.box.set 0 (.int .i64 x)
                  have kx : Keeps w5 (w5.setCell ⟨g, 0, none⟩ (.int .i64 x)) (fun j => j = g) := Keeps.set _ _ _ _ rfl
                  have hgx := S5.sets (B := { B with sets := x }) (ja := ia) (jc := ic) neUI neUA rfl kx bx (S5.init.tame (Tame.box kx S5.lo S5.box) neUI)
                  have RN : Hid (RdM w g CP ls (some ⟨lb, 0, none⟩) oc (0 + 1) (w5.setCell ⟨g, 0, none⟩ (.int .i64 x))) := NEXT.out { B with sets := x } (by rw [l0, hn1]; rfl) _ _ _ _ _ _ hgx.1 (((Tame.of_below hb4).trans (Tame.of_below hb5)).trans hgx.2)
                  have RG : Hid (RowAt (w5.setCell ⟨g, 0, none⟩ (.int .i64 x)) g2 AUT zAU) := RowAt.keeps ((rg2.out.below hb4).below hb5) kx (by have := hgg.out; omega)
                  subst eo
                  clear hgx kx bx S5 hx hxs hb4 hb5 hS NEXT STP l0 hn1 hw hqfd hxn h1 own4 rg2
                  go_wp2
                  go_roundw
                  case rel => exact ⟨1, rfl, rfl, by go_num, by omega, RN, RG⟩
                  case measure => simp [intOf]; omega
                · have hst := STP.out (by
                    rw [l0, hn1]
                    match xs, h1 with
                    | [], _ => rfl
                    | [n], h1 => exact absurd rfl h1
                    | a :: b :: r, _ => rfl)
                  have h1B : ((xn : Int) == 1) = false := by rw [beq_eq_false_iff_ne]; omega
                  have h1N : (xn == 1) = false := by rw [beq_eq_false_iff_ne]; omega
                  clear NEXT STP hw hqfd l0 hn1 h1 hxn hxs
                  have ho2 := ho.out
                  rw [hst] at ho2
                  dsimp only at ho2
                  subst ho2
                  have q5 := (rg2.out.below hb4).below hb5
                  have B5 := btrans (btrans hbel.out hb4) hb5
                  clear hst ho hS hb4 hb5 own4 rg2
                  go_upto_region 24 with (fail)
                  refine wp_region_list ?_
                  refine wpList_plain rfl (fun K hK => ?_)
                  go_simp
                  refine hK _ _ ?_
                  clear hK K
                  refine wpList_plain rfl (fun K hK => ?_)
                  go_simp
                  refine hK _ _ ?_
                  clear hK K
                  refine list_store (l := zAU) infoAU q5 rfl rfl (au3_one _ _ _ rfl rfl) rfl 2 125 rfl rfl rfl ?_
                  intro w6 q6 k6
                  have fin : Hid (ParsV w (au0, 0, 3) (.returned (.tuple #[.agg #[.int .i64 0, .slice none 0 0, .slice none 0 0], .int .i64 ((0 : Nat) : Int), .int .i64 3])) w6) := ParsV.no (k6.below B5 (fun j hj => by rw [hj, hg2.out]; exact Nat.le_refl _))
                  have q6' := Lib.hid q6
                  clear q5 B5 k6 q6
                  refine wpList_plain rfl (fun K hK => ?_)
                  go_simp
                  refine hK _ _ ?_
                  clear hK K
                  refine wpList_plain rfl (fun K hK => ?_)
                  go_simp
                  refine hK _ _ ?_
                  clear hK K
                  refine wpList_nil ?_
                  go_wp2
                  refine bodyPost_ret (v := .tuple #[.agg (zAU).toArray, .int .i64 ((0 : Nat) : Int), .int .i64 3]) (results_ctt (a := 2) (b := 3) (c := 4) (by kernel_rfl) rfl rfl rfl (loadVar_whole undAU infoAU q6'.out rfl)) rfl ?_
                  exact fin.out
            · have hqs : ¬ qf = ⟨#[97, 117, 116, 111]⟩ := fun e => hw (by rw [← hqfd, e])
              have hqB := str_no hqs
              have hqB2 : (qf.toList == [97, 117, 116, 111]) = false := by
                rw [beq_eq_false_iff_ne]
                intro e
                rw [ByteArray.toList_eq] at e
                exact hw (by rw [← hqfd, e])
              rw [if_neg hw] at l0
              have hst := STP.out l0
              clear NEXT STP hw hqfd l0 hqs hway
              cases bb
              · have ho2 := ho.out
                rw [hst] at ho2
                dsimp only at ho2
                subst ho2
                have q5 := (rg2.out.below hb4).below hb5
                have B5 := btrans (btrans hbel.out hb4) hb5
                clear hst ho hS hb4 hb5 own4 rg2
                go_upto_region 24 with (fail)
                refine wp_region_list ?_
                refine wpList_plain rfl (fun K hK => ?_)
                go_simp
                refine hK _ _ ?_
                clear hK K
                refine wpList_plain rfl (fun K hK => ?_)
                go_simp
                refine hK _ _ ?_
                clear hK K
                refine list_store (l := zAU) infoAU q5 rfl rfl (au3_one _ _ _ rfl rfl) rfl 2 125 rfl rfl rfl ?_
                intro w6 q6 k6
                have fin : Hid (ParsV w (au0, 0, 3) (.returned (.tuple #[.agg #[.int .i64 0, .slice none 0 0, .slice none 0 0], .int .i64 ((0 : Nat) : Int), .int .i64 3])) w6) := ParsV.no (k6.below B5 (fun j hj => by rw [hj, hg2.out]; exact Nat.le_refl _))
                have q6' := Lib.hid q6
                clear q5 B5 k6 q6
                refine wpList_plain rfl (fun K hK => ?_)
                go_simp
                refine hK _ _ ?_
                clear hK K
                refine wpList_plain rfl (fun K hK => ?_)
                go_simp
                refine hK _ _ ?_
                clear hK K
                refine wpList_nil ?_
                go_wp2
                refine bodyPost_ret (v := .tuple #[.agg (zAU).toArray, .int .i64 ((0 : Nat) : Int), .int .i64 3]) (results_ctt (a := 2) (b := 3) (c := 4) (by kernel_rfl) rfl rfl rfl (loadVar_whole undAU infoAU q6'.out rfl)) rfl ?_
                exact fin.out
              · have ho2 := ho.out
                rw [hst] at ho2
                dsimp only at ho2
                subst ho2
                have q5 := (rg2.out.below hb4).below hb5
                have B5 := btrans (btrans hbel.out hb4) hb5
                clear hst ho hS hb4 hb5 own4 rg2
                go_upto_region 24 with (fail)
                refine wp_region_list ?_
                refine wpList_plain rfl (fun K hK => ?_)
                go_simp
                refine hK _ _ ?_
                clear hK K
                refine wpList_plain rfl (fun K hK => ?_)
                go_simp
                refine hK _ _ ?_
                clear hK K
                refine list_store (l := zAU) infoAU q5 rfl rfl (au3_one _ _ _ rfl rfl) rfl 2 125 rfl rfl rfl ?_
                intro w6 q6 k6
                have fin : Hid (ParsV w (au0, 0, 3) (.returned (.tuple #[.agg #[.int .i64 0, .slice none 0 0, .slice none 0 0], .int .i64 ((0 : Nat) : Int), .int .i64 3])) w6) := ParsV.no (k6.below B5 (fun j hj => by rw [hj, hg2.out]; exact Nat.le_refl _))
                have q6' := Lib.hid q6
                clear q5 B5 k6 q6
                refine wpList_plain rfl (fun K hK => ?_)
                go_simp
                refine hK _ _ ?_
                clear hK K
                refine wpList_plain rfl (fun K hK => ?_)
                go_simp
                refine hK _ _ ?_
                clear hK K
                refine wpList_nil ?_
                go_wp2
                refine bodyPost_ret (v := .tuple #[.agg (zAU).toArray, .int .i64 ((0 : Nat) : Int), .int .i64 3]) (results_ctt (a := 2) (b := 3) (c := 4) (by kernel_rfl) rfl rfl rfl (loadVar_whole undAU infoAU q6'.out rfl)) rfl ?_
                exact fin.out
          · by_cases k1 : k = 1
            · subst k1
              clear ln2 l0 NOD k0
              go_wp2_with fail
              refine C1.out.mono ?_
              rintro e w4 ⟨fa, fc, rfl, own4, hb4⟩
              have hfc := (OwnR.caps own4).1
              have RC2 := RC1 fa fc
              clear RC1 C1
              go_wp2_with fail
              refine (NUM.out w4 (btrans hbel.out hb4) _ _ hfc (StrsAt.of_own own4)).mono ?_
              rintro e w5 hnm
              obtain ⟨xa, xn, xc, bb, rfl, hb5, hway⟩ := hnm.any2
              clear hnm NUM RC2
              have own5 : OwnR w5 wr.heap.size TStr 1 fa F.length fc (strV F) := OwnR.keeps (S := fun _ => False) own4 (Keeps.of_below hb5) (fun _ _ e => e)
              obtain ⟨ga, efa⟩ := FA.out w5 fa fc own5
              subst efa
              have cf := CF.out w5 ga fc own5
              clear own5 CF FA
              by_cases hw : f0 = [105, 110, 105, 116]
              · have hqs : qf = ⟨#[105, 110, 105, 116]⟩ := take_eta (hqfd.trans hw)
                subst hqs
                rw [if_pos hw] at l1
                rcases hway with ⟨hn1, hb1⟩ | ⟨xs, hn1, hb1, hxn, hxs⟩
                · subst hb1
                  have hst := STP.out (by rw [l1, hn1]; rfl)
                  clear NEXT STP hw hqfd l1 hn1
                  have ho2 := ho.out
                  rw [hst] at ho2
                  dsimp only at ho2
                  subst ho2
                  have q5 := (rg2.out.below hb4).below hb5
                  have B5 := btrans (btrans hbel.out hb4) hb5
                  clear hst ho hS hb4 hb5 own4 rg2
                  go_upto_region 24 with (fail)
                  refine wp_region_list ?_
                  refine wpList_plain rfl (fun K hK => ?_)
                  go_simp
                  refine hK _ _ ?_
                  clear hK K
                  refine wpList_plain rfl (fun K hK => ?_)
                  go_simp
                  refine hK _ _ ?_
                  clear hK K
                  refine list_store (l := zAU) infoAU q5 rfl rfl (au3_one _ _ _ rfl rfl) rfl 2 125 rfl rfl rfl ?_
                  intro w6 q6 k6
                  have fin : Hid (ParsV w (au0, 1, 3) (.returned (.tuple #[.agg #[.int .i64 0, .slice none 0 0, .slice none 0 0], .int .i64 ((1 : Nat) : Int), .int .i64 3])) w6) := ParsV.no (k6.below B5 (fun j hj => by rw [hj, hg2.out]; exact Nat.le_refl _))
                  have q6' := Lib.hid q6
                  clear q5 B5 k6 q6
                  refine wpList_plain rfl (fun K hK => ?_)
                  go_simp
                  refine hK _ _ ?_
                  clear hK K
                  refine wpList_plain rfl (fun K hK => ?_)
                  go_simp
                  refine hK _ _ ?_
                  clear hK K
                  refine wpList_nil ?_
                  go_wp2
                  refine bodyPost_ret (v := .tuple #[.agg (zAU).toArray, .int .i64 ((1 : Nat) : Int), .int .i64 3]) (results_ctt (a := 2) (b := 3) (c := 4) (by kernel_rfl) rfl rfl rfl (loadVar_whole undAU infoAU q6'.out rfl)) rfl ?_
                  exact fin.out
                · subst hb1
                  subst hxn
                  have S5 := (hS.out.below hb4 neUI).below hb5 neUI
                  have d2 : w5.cell? ⟨g, 1, none⟩ = some (.slice ia B.init.length ic) := S5.box.cell 1
                  have df2 := S5.box.free 1
                  have bx := S5.box.set 1 (.slice xa xs.length xc)
                  have kx : Keeps w5 (w5.setCell ⟨g, 1, none⟩ (.slice xa xs.length xc)) (fun j => j = g) := Keeps.set _ _ _ _ rfl
                  have hgx := S5.sets (B := { B with init := xs }) (ja := xa) (jc := xc) neUI neUA rfl kx bx (OwnN.tame (b2 := w.heap.size) (OwnR.lowB hxs (btrans hbel.out hb4).size) (Tame.box kx S5.lo S5.box) neUI)
                  have RN : Hid (RdM w g CP ls (some ⟨lb, 0, none⟩) oc (1 + 1) (w5.setCell ⟨g, 1, none⟩ (.slice xa xs.length xc))) := NEXT.out { B with init := xs } (by rw [l1, hn1]; rfl) _ _ _ _ _ _ hgx.1 (((Tame.of_below hb4).trans (Tame.of_below hb5)).trans hgx.2)
                  have RG : Hid (RowAt (w5.setCell ⟨g, 1, none⟩ (.slice xa xs.length xc)) g2 AUT zAU) := RowAt.keeps ((rg2.out.below hb4).below hb5) kx (by have := hgg.out; omega)
                  clear hgx kx bx S5 hxs hb4 hb5 hS NEXT STP l1 hn1 hw hqfd own4 rg2
                  go_wp2
                  go_roundw
                  case rel => exact ⟨2, rfl, rfl, by go_num, by omega, RN, RG⟩
                  case measure => simp [intOf]; omega
              · have hqs : ¬ qf = ⟨#[105, 110, 105, 116]⟩ := fun e => hw (by rw [← hqfd, e])
                have hqB := str_no hqs
                have hqB2 : (qf.toList == [105, 110, 105, 116]) = false := by
                  rw [beq_eq_false_iff_ne]
                  intro e
                  rw [ByteArray.toList_eq] at e
                  exact hw (by rw [← hqfd, e])
                rw [if_neg hw] at l1
                have hst := STP.out l1
                clear NEXT STP hw hqfd l1 hqs hway
                cases bb
                · have ho2 := ho.out
                  rw [hst] at ho2
                  dsimp only at ho2
                  subst ho2
                  have q5 := (rg2.out.below hb4).below hb5
                  have B5 := btrans (btrans hbel.out hb4) hb5
                  clear hst ho hS hb4 hb5 own4 rg2
                  go_upto_region 24 with (fail)
                  refine wp_region_list ?_
                  refine wpList_plain rfl (fun K hK => ?_)
                  go_simp
                  refine hK _ _ ?_
                  clear hK K
                  refine wpList_plain rfl (fun K hK => ?_)
                  go_simp
                  refine hK _ _ ?_
                  clear hK K
                  refine list_store (l := zAU) infoAU q5 rfl rfl (au3_one _ _ _ rfl rfl) rfl 2 125 rfl rfl rfl ?_
                  intro w6 q6 k6
                  have fin : Hid (ParsV w (au0, 1, 3) (.returned (.tuple #[.agg #[.int .i64 0, .slice none 0 0, .slice none 0 0], .int .i64 ((1 : Nat) : Int), .int .i64 3])) w6) := ParsV.no (k6.below B5 (fun j hj => by rw [hj, hg2.out]; exact Nat.le_refl _))
                  have q6' := Lib.hid q6
                  clear q5 B5 k6 q6
                  refine wpList_plain rfl (fun K hK => ?_)
                  go_simp
                  refine hK _ _ ?_
                  clear hK K
                  refine wpList_plain rfl (fun K hK => ?_)
                  go_simp
                  refine hK _ _ ?_
                  clear hK K
                  refine wpList_nil ?_
                  go_wp2
                  refine bodyPost_ret (v := .tuple #[.agg (zAU).toArray, .int .i64 ((1 : Nat) : Int), .int .i64 3]) (results_ctt (a := 2) (b := 3) (c := 4) (by kernel_rfl) rfl rfl rfl (loadVar_whole undAU infoAU q6'.out rfl)) rfl ?_
                  exact fin.out
                · have ho2 := ho.out
                  rw [hst] at ho2
                  dsimp only at ho2
                  subst ho2
                  have q5 := (rg2.out.below hb4).below hb5
                  have B5 := btrans (btrans hbel.out hb4) hb5
                  clear hst ho hS hb4 hb5 own4 rg2
                  go_upto_region 24 with (fail)
                  refine wp_region_list ?_
                  refine wpList_plain rfl (fun K hK => ?_)
                  go_simp
                  refine hK _ _ ?_
                  clear hK K
                  refine wpList_plain rfl (fun K hK => ?_)
                  go_simp
                  refine hK _ _ ?_
                  clear hK K
                  refine list_store (l := zAU) infoAU q5 rfl rfl (au3_one _ _ _ rfl rfl) rfl 2 125 rfl rfl rfl ?_
                  intro w6 q6 k6
                  have fin : Hid (ParsV w (au0, 1, 3) (.returned (.tuple #[.agg #[.int .i64 0, .slice none 0 0, .slice none 0 0], .int .i64 ((1 : Nat) : Int), .int .i64 3])) w6) := ParsV.no (k6.below B5 (fun j hj => by rw [hj, hg2.out]; exact Nat.le_refl _))
                  have q6' := Lib.hid q6
                  clear q5 B5 k6 q6
                  refine wpList_plain rfl (fun K hK => ?_)
                  go_simp
                  refine hK _ _ ?_
                  clear hK K
                  refine wpList_plain rfl (fun K hK => ?_)
                  go_simp
                  refine hK _ _ ?_
                  clear hK K
                  refine wpList_nil ?_
                  go_wp2
                  refine bodyPost_ret (v := .tuple #[.agg (zAU).toArray, .int .i64 ((1 : Nat) : Int), .int .i64 3]) (results_ctt (a := 2) (b := 3) (c := 4) (by kernel_rfl) rfl rfl rfl (loadVar_whole undAU infoAU q6'.out rfl)) rfl ?_
                  exact fin.out
            · have hk2 : 2 ≤ k := by omega
              have hkI2 : ¬ (k : Int) < 2 := by omega
              have l2 := ln2 k hk2
              have hnnb : B.nodes.length ≤ 20001 := by have := hlN.out; omega
              clear ln2 l0 l1 NUM k0 k1
              by_cases hw : f0 = [110, 111, 100, 101]
              · have hqs : qf = ⟨#[110, 111, 100, 101]⟩ := take_eta (hqfd.trans hw)
                subst hqs
                rw [if_pos hw] at l2
                cases no with
                | none =>
                  have hst := STP.out (by rw [l2]; rfl)
                  clear NEXT STP hw hqfd l2
                  go_wp2_with fail
                  refine C1.out.mono ?_
                  rintro e w4 ⟨fa, fc, rfl, own4, hb4⟩
                  have hfc := (OwnR.caps own4).1
                  have RC2 := RC1 fa fc
                  clear RC1 C1
                  go_upto_region 20 with (fail)
                  refine wp_region_list ?_
                  refine wpList_plain rfl (fun K hK => ?_)
                  go_simp
                  refine hK _ _ ?_
                  clear hK K
                  refine wpList_plain rfl (fun K hK => ?_)
                  go_simp
                  refine hK _ _ ?_
                  clear hK K
                  refine wpList_plain rfl (fun K hK => ?_)
                  go_simp
                  refine (NOD.out w4 (btrans hbel.out hb4) _ _ hfc (StrsAt.of_own own4)).mono ?_
                  rintro e w5 ⟨row, rfl, hr4, hr1, hrw5, hb5⟩
                  refine hK _ _ ?_
                  clear hK K NOD RC2
                  have own5 : OwnR w5 wr.heap.size TStr 1 fa F.length fc (strV F) := OwnR.keeps (S := fun _ => False) own4 (Keeps.of_below hb5) (fun _ _ e => e)
                  obtain ⟨ga, efa⟩ := FA.out w5 fa fc own5
                  subst efa
                  replace hrw5 := Lib.hid hrw5
                  refine wpList_plain rfl (fun K hK => ?_)
                  go_simp
                  refine hK _ _ ?_
                  clear hK K
                  refine wpList_plain rfl (fun K hK => ?_)
                  go_simp
                  refine hK _ _ ?_
                  clear hK K
                  refine wpList_plain rfl (fun K hK => ?_)
                  go_simp
                  refine hK _ _ ?_
                  clear hK K
                  refine wpList_plain rfl (fun K hK => ?_)
                  go_simp
                  refine hK _ _ ?_
                  clear hK K
                  obtain ⟨w6, hw6⟩ : ∃ w6, w6 = w5.alloc (.cells #[.int .u64 0, .int .u64 0, .int .u64 0, .slice none 0 0] TAn) := ⟨_, rfl⟩
                  obtain ⟨gx, hgx⟩ : ∃ g, g = w5.heap.size := ⟨_, rfl⟩
                  have r6 : RowAt w6 gx TAn [.int .u64 0, .int .u64 0, .int .u64 0, .slice none 0 0] := by rw [hw6]; exact RowAt.new #[.int .u64 0, .int .u64 0, .int .u64 0, .slice none 0 0] hgx
                  have b6 : Below w5.heap.size w5 w6 := by rw [hw6]; exact balloc (Below.refl _ _) _
                  rw [← hw6, ← hgx]
                  replace hw6 := Lib.hid hw6
                  refine list_store (l := row) infoAn r6 rfl hr4 hr1 rfl 12 108 rfl rfl rfl ?_
                  intro w7 q7 k7
                  have b57 : Below w5.heap.size w5 w7 := k7.below b6 (fun j hj => by rw [hj, hgx]; exact Nat.le_refl _)
                  replace hgx := Lib.hid hgx
                  have own7 : OwnR w7 wr.heap.size TStr 1 (some ⟨ga, 0, none⟩) F.length fc (strV F) := OwnR.keeps (S := fun _ => False) own5 (Keeps.of_below b57) (fun _ _ e => e)
                  have cf := CF.out w7 ga fc own7
                  have S7 := ((hS.out.below hb4 neUI).below hb5 neUI).below b57 neUI
                  have R7 := ((rg2.out.below hb4).below hb5).below b57
                  have B7 := btrans (btrans (btrans hbel.out hb4) hb5) b57
                  have b7r := btrans (btrans hb4 hb5) b57
                  have c2 : w7.cell? ⟨g, 2, none⟩ = some (.slice na B.nodes.length nc) := S7.box.cell 2
                  replace S7 := Lib.hid S7
                  replace R7 := Lib.hid R7
                  replace B7 := Lib.hid B7
                  replace b7r := Lib.hid b7r
                  replace b57 := Lib.hid b57
                  replace hb5 := Lib.hid hb5
                  replace hb4 := Lib.hid hb4
                  clear own4 own5 own7 r6 b6 k7 CF FA
                  refine wpList_plain rfl (fun K hK => ?_)
                  go_simp
                  refine hK _ _ ?_
                  clear hK K
                  refine wpList_nil ?_
                  go_upto_region 22 with (fail)
                  refine wp_region_list ?_
                  refine wpList_plain rfl (fun K hK => ?_)
                  go_simp
                  refine hK _ _ ?_
                  clear hK K
                  refine wpList_plain rfl (fun K hK => ?_)
                  go_simp
                  refine hK _ _ ?_
                  clear hK K
                  refine list_load undAn infoAn q7 hr4 rfl 12 rfl rfl ?_
                  refine wpList_plain rfl (fun K hK => ?_)
                  go_simp
                  rw [build4 hr4]
                  refine hK _ _ ?_
                  clear hK K
                  obtain ⟨w8, hw8⟩ : ∃ w8, w8 = w7.alloc (.cells row.toArray TAn) := ⟨_, rfl⟩
                  obtain ⟨g8, hg8⟩ : ∃ g8, g8 = w7.heap.size := ⟨_, rfl⟩
                  have r8 : RowAt w8 g8 TAn row := by rw [hw8]; exact RowAt.new row.toArray hg8
                  have b78 : Below w7.heap.size w7 w8 := by rw [hw8]; exact balloc (Below.refl _ _) _
                  rw [← hw8, ← hg8]
                  replace hw8 := Lib.hid hw8
                  replace hg8 := Lib.hid hg8
                  have S8 := S7.out.below b78 neUI
                  have bh8 : w.heap.size ≤ w8.heap.size := (btrans B7.out b78).size
                  refine wp_appG rfl (.tmp 118) (.tmp 120) 23 TAn (.agg #[.int .u64 0, .int .u64 0, .int .u64 0, .slice none 0 0]) 4 48 rfl Tryd.underlying23 infoAn3 rfl (by decide) w.heap.size na B.nodes.length nc cells rfl S8.own (some ⟨g8, 0, none⟩) 1 1 row rfl (by omega) (SrcAt.row r8) hr1 (by unfold maxLen; omega) (by omega) bh8 ?_
                  intro a9 c9 w9 own9 hg9
                  have bx9 : RowAt w9 g AUT [.int .i64 B.sets, .slice ia B.init.length ic, .slice na B.nodes.length nc] := S8.box.keep (hg9.block g S8.box.lt (fun e => by
                    obtain ⟨_, c, hc⟩ := own_type S8.own e.symm
                    rw [show w8.heap[g]? = _ from S8.box] at hc
                    injection hc with hc
                    injection hc with _ hc _
                    exact neUA hc.symm))
                  have R9 : RowAt w9 g2 AUT zAU := (R7.out.below b78).keep (hg9.block g2 (R7.out.below b78).lt (fun e => by
                    obtain ⟨_, c, hc⟩ := own_type S8.own e.symm
                    rw [show w8.heap[g2]? = _ from R7.out.below b78] at hc
                    injection hc with hc
                    injection hc with _ hc _
                    exact neUA hc.symm))
                  have c29 : w9.cell? ⟨g, 2, none⟩ = some (.slice na B.nodes.length nc) := bx9.cell 2
                  have f29 := bx9.free 2
                  have bx10 := bx9.set 2 (.slice a9 (B.nodes.length + 1) c9)
                  have k10 : Keeps w9 (w9.setCell ⟨g, 2, none⟩ (.slice a9 (B.nodes.length + 1) c9)) (fun j => j = g) := Keeps.set _ _ _ _ rfl
                  have PU := AuB.push S7.out neUI neUA b78 own9 hg9 bx9 k10 bx10
                  have q5 : RowAt (w9.setCell ⟨g, 2, none⟩ (.slice a9 (B.nodes.length + 1) c9)) g2 AUT zAU := RowAt.keeps R9 k10 (by have := hgg.out; omega)
                  have B5 : Below w.heap.size w (w9.setCell ⟨g, 2, none⟩ (.slice a9 (B.nodes.length + 1) c9)) := PU.1.below B7.out (Nat.le_refl _)
                  clear PU bx10 k10 bx9 R9 own9 hg9 r8 b78 S8
                  refine wpList_plain rfl (fun K hK => ?_)
                  go_simp
                  refine hK _ _ ?_
                  clear hK K
                  refine wpList_plain rfl (fun K hK => ?_)
                  go_simp
                  refine hK _ _ ?_
                  clear hK K
                  refine wpList_nil ?_
                  generalize w9.setCell ⟨g, 2, none⟩ (.slice a9 (B.nodes.length + 1) c9) = w10 at *
                  have ho2 := ho.out
                  rw [hst] at ho2
                  dsimp only at ho2
                  subst ho2
                  clear hst ho hS hb4 hb5 rg2 S7 R7 B7 c29 f29
                  go_upto_region 24 with (fail)
                  refine wp_region_list ?_
                  refine wpList_plain rfl (fun K hK => ?_)
                  go_simp
                  refine hK _ _ ?_
                  clear hK K
                  refine wpList_plain rfl (fun K hK => ?_)
                  go_simp
                  refine hK _ _ ?_
                  clear hK K
                  refine list_store (l := zAU) infoAU q5 rfl rfl (au3_one _ _ _ rfl rfl) rfl 2 125 rfl rfl rfl ?_
                  intro w6 q6 k6
                  have fin : Hid (ParsV w (au0, k, 3) (.returned (.tuple #[.agg #[.int .i64 0, .slice none 0 0, .slice none 0 0], .int .i64 ((k : Nat) : Int), .int .i64 3])) w6) := ParsV.no (k6.below B5 (fun j hj => by rw [hj, hg2.out]; exact Nat.le_refl _))
                  have q6' := Lib.hid q6
                  clear q5 B5 k6 q6
                  refine wpList_plain rfl (fun K hK => ?_)
                  go_simp
                  refine hK _ _ ?_
                  clear hK K
                  refine wpList_plain rfl (fun K hK => ?_)
                  go_simp
                  refine hK _ _ ?_
                  clear hK K
                  refine wpList_nil ?_
                  go_wp2
                  refine bodyPost_ret (v := .tuple #[.agg (zAU).toArray, .int .i64 ((k : Nat) : Int), .int .i64 3]) (results_ctt (a := 2) (b := 3) (c := 4) (by kernel_rfl) rfl rfl rfl (loadVar_whole undAU infoAU q6'.out rfl)) rfl ?_
                  exact fin.out
                | some y =>
                  have hC : lineP B k F = some { B with nodes := B.nodes ++ [y] } := by rw [l2]; rfl
                  clear STP hw hqfd l2
                  go_wp2_with fail
                  refine C1.out.mono ?_
                  rintro e w4 ⟨fa, fc, rfl, own4, hb4⟩
                  have hfc := (OwnR.caps own4).1
                  have RC2 := RC1 fa fc
                  clear RC1 C1
                  go_upto_region 20 with (fail)
                  refine wp_region_list ?_
                  refine wpList_plain rfl (fun K hK => ?_)
                  go_simp
                  refine hK _ _ ?_
                  clear hK K
                  refine wpList_plain rfl (fun K hK => ?_)
                  go_simp
                  refine hK _ _ ?_
                  clear hK K
                  refine wpList_plain rfl (fun K hK => ?_)
                  go_simp
                  refine (NOD.out w4 (btrans hbel.out hb4) _ _ hfc (StrsAt.of_own own4)).mono ?_
                  rintro e w5 ⟨row, rfl, hr4, hr1, hrw5, hb5⟩
                  refine hK _ _ ?_
                  clear hK K NOD RC2
                  have own5 : OwnR w5 wr.heap.size TStr 1 fa F.length fc (strV F) := OwnR.keeps (S := fun _ => False) own4 (Keeps.of_below hb5) (fun _ _ e => e)
                  obtain ⟨ga, efa⟩ := FA.out w5 fa fc own5
                  subst efa
                  replace hrw5 := Lib.hid hrw5
                  refine wpList_plain rfl (fun K hK => ?_)
                  go_simp
                  refine hK _ _ ?_
                  clear hK K
                  refine wpList_plain rfl (fun K hK => ?_)
                  go_simp
                  refine hK _ _ ?_
                  clear hK K
                  refine wpList_plain rfl (fun K hK => ?_)
                  go_simp
                  refine hK _ _ ?_
                  clear hK K
                  refine wpList_plain rfl (fun K hK => ?_)
                  go_simp
                  refine hK _ _ ?_
                  clear hK K
                  obtain ⟨w6, hw6⟩ : ∃ w6, w6 = w5.alloc (.cells #[.int .u64 0, .int .u64 0, .int .u64 0, .slice none 0 0] TAn) := ⟨_, rfl⟩
                  obtain ⟨gx, hgx⟩ : ∃ g, g = w5.heap.size := ⟨_, rfl⟩
                  have r6 : RowAt w6 gx TAn [.int .u64 0, .int .u64 0, .int .u64 0, .slice none 0 0] := by rw [hw6]; exact RowAt.new #[.int .u64 0, .int .u64 0, .int .u64 0, .slice none 0 0] hgx
                  have b6 : Below w5.heap.size w5 w6 := by rw [hw6]; exact balloc (Below.refl _ _) _
                  rw [← hw6, ← hgx]
                  replace hw6 := Lib.hid hw6
                  refine list_store (l := row) infoAn r6 rfl hr4 hr1 rfl 12 108 rfl rfl rfl ?_
                  intro w7 q7 k7
                  have b57 : Below w5.heap.size w5 w7 := k7.below b6 (fun j hj => by rw [hj, hgx]; exact Nat.le_refl _)
                  replace hgx := Lib.hid hgx
                  have own7 : OwnR w7 wr.heap.size TStr 1 (some ⟨ga, 0, none⟩) F.length fc (strV F) := OwnR.keeps (S := fun _ => False) own5 (Keeps.of_below b57) (fun _ _ e => e)
                  have cf := CF.out w7 ga fc own7
                  have S7 := ((hS.out.below hb4 neUI).below hb5 neUI).below b57 neUI
                  have R7 := ((rg2.out.below hb4).below hb5).below b57
                  have B7 := btrans (btrans (btrans hbel.out hb4) hb5) b57
                  have b7r := btrans (btrans hb4 hb5) b57
                  have c2 : w7.cell? ⟨g, 2, none⟩ = some (.slice na B.nodes.length nc) := S7.box.cell 2
                  replace S7 := Lib.hid S7
                  replace R7 := Lib.hid R7
                  replace B7 := Lib.hid B7
                  replace b7r := Lib.hid b7r
                  replace b57 := Lib.hid b57
                  replace hb5 := Lib.hid hb5
                  replace hb4 := Lib.hid hb4
                  clear own4 own5 own7 r6 b6 k7 CF FA
                  refine wpList_plain rfl (fun K hK => ?_)
                  go_simp
                  refine hK _ _ ?_
                  clear hK K
                  refine wpList_nil ?_
                  go_upto_region 22 with (fail)
                  refine wp_region_list ?_
                  refine wpList_plain rfl (fun K hK => ?_)
                  go_simp
                  refine hK _ _ ?_
                  clear hK K
                  refine wpList_plain rfl (fun K hK => ?_)
                  go_simp
                  refine hK _ _ ?_
                  clear hK K
                  refine list_load undAn infoAn q7 hr4 rfl 12 rfl rfl ?_
                  refine wpList_plain rfl (fun K hK => ?_)
                  go_simp
                  rw [build4 hr4]
                  refine hK _ _ ?_
                  clear hK K
                  obtain ⟨w8, hw8⟩ : ∃ w8, w8 = w7.alloc (.cells row.toArray TAn) := ⟨_, rfl⟩
                  obtain ⟨g8, hg8⟩ : ∃ g8, g8 = w7.heap.size := ⟨_, rfl⟩
                  have r8 : RowAt w8 g8 TAn row := by rw [hw8]; exact RowAt.new row.toArray hg8
                  have b78 : Below w7.heap.size w7 w8 := by rw [hw8]; exact balloc (Below.refl _ _) _
                  rw [← hw8, ← hg8]
                  replace hw8 := Lib.hid hw8
                  replace hg8 := Lib.hid hg8
                  have S8 := S7.out.below b78 neUI
                  have bh8 : w.heap.size ≤ w8.heap.size := (btrans B7.out b78).size
                  refine wp_appG rfl (.tmp 118) (.tmp 120) 23 TAn (.agg #[.int .u64 0, .int .u64 0, .int .u64 0, .slice none 0 0]) 4 48 rfl Tryd.underlying23 infoAn3 rfl (by decide) w.heap.size na B.nodes.length nc cells rfl S8.own (some ⟨g8, 0, none⟩) 1 1 row rfl (by omega) (SrcAt.row r8) hr1 (by unfold maxLen; omega) (by omega) bh8 ?_
                  intro a9 c9 w9 own9 hg9
                  have bx9 : RowAt w9 g AUT [.int .i64 B.sets, .slice ia B.init.length ic, .slice na B.nodes.length nc] := S8.box.keep (hg9.block g S8.box.lt (fun e => by
                    obtain ⟨_, c, hc⟩ := own_type S8.own e.symm
                    rw [show w8.heap[g]? = _ from S8.box] at hc
                    injection hc with hc
                    injection hc with _ hc _
                    exact neUA hc.symm))
                  have R9 : RowAt w9 g2 AUT zAU := (R7.out.below b78).keep (hg9.block g2 (R7.out.below b78).lt (fun e => by
                    obtain ⟨_, c, hc⟩ := own_type S8.own e.symm
                    rw [show w8.heap[g2]? = _ from R7.out.below b78] at hc
                    injection hc with hc
                    injection hc with _ hc _
                    exact neUA hc.symm))
                  have c29 : w9.cell? ⟨g, 2, none⟩ = some (.slice na B.nodes.length nc) := bx9.cell 2
                  have f29 := bx9.free 2
                  have bx10 := bx9.set 2 (.slice a9 (B.nodes.length + 1) c9)
                  have k10 : Keeps w9 (w9.setCell ⟨g, 2, none⟩ (.slice a9 (B.nodes.length + 1) c9)) (fun j => j = g) := Keeps.set _ _ _ _ rfl
                  have PU := AuB.push S7.out neUI neUA b78 own9 hg9 bx9 k10 bx10
                  have q5 : RowAt (w9.setCell ⟨g, 2, none⟩ (.slice a9 (B.nodes.length + 1) c9)) g2 AUT zAU := RowAt.keeps R9 k10 (by have := hgg.out; omega)
                  have B5 : Below w.heap.size w (w9.setCell ⟨g, 2, none⟩ (.slice a9 (B.nodes.length + 1) c9)) := PU.1.below B7.out (Nat.le_refl _)
                  obtain ⟨ta, tc, hrow, hto⟩ := hrw5.out y rfl
                  have hto7 : OwnN .i64 w8 w.heap.size TInt ta y.to.length tc y.to := OwnN.tame (T := AUT) (base := 0) (b2 := w.heap.size) (OwnR.lowB hto (btrans hbel.out hb4.out).size) ((Tame.of_below b57.out).trans (Tame.of_below b78)) neUI
                  have RN : Hid (RdM w g CP ls (some ⟨lb, 0, none⟩) oc (k + 1) (w9.setCell ⟨g, 2, none⟩ (.slice a9 (B.nodes.length + 1) c9))) := NEXT.out _ hC _ _ _ _ _ _ (PU.2 y ta tc hrow hto7) ((Tame.of_below b7r.out).trans PU.1)
                  have q5H := Lib.hid q5
                  clear PU bx10 k10 bx9 R9 own9 hg9 r8 b78 S8 hto hto7 B5 q5 hrow
                  refine wpList_plain rfl (fun K hK => ?_)
                  go_simp
                  refine hK _ _ ?_
                  clear hK K
                  refine wpList_plain rfl (fun K hK => ?_)
                  go_simp
                  refine hK _ _ ?_
                  clear hK K
                  refine wpList_nil ?_
                  generalize w9.setCell ⟨g, 2, none⟩ (.slice a9 (B.nodes.length + 1) c9) = w10 at *
                  clear c29 f29 NEXT hS hb4 hb5 rg2 S7 R7 B7
                  go_wp2
                  go_roundw
                  case rel => exact ⟨k + 1, rfl, rfl, by go_num, by omega, RN, q5H⟩
                  case measure => simp [intOf]; omega
              · have hqs : ¬ qf = ⟨#[110, 111, 100, 101]⟩ := fun e => hw (by rw [← hqfd, e])
                have hqB2 : (qf.toList == [110, 111, 100, 101]) = false := by
                  rw [beq_eq_false_iff_ne]
                  intro e
                  rw [ByteArray.toList_eq] at e
                  exact hw (by rw [← hqfd, e])
                rw [if_neg hw] at l2
                have hst := STP.out l2
                clear NEXT STP hw hqfd l2 hqs
                obtain ⟨bb, hbb⟩ : ∃ bb, bb = no.isSome := ⟨_, rfl⟩
                cases no with
                | none =>
                  subst hbb
                  go_wp2_with fail
                  refine C1.out.mono ?_
                  rintro e w4 ⟨fa, fc, rfl, own4, hb4⟩
                  have hfc := (OwnR.caps own4).1
                  have RC2 := RC1 fa fc
                  clear RC1 C1
                  go_upto_region 20 with (fail)
                  refine wp_region_list ?_
                  refine wpList_plain rfl (fun K hK => ?_)
                  go_simp
                  refine hK _ _ ?_
                  clear hK K
                  refine wpList_plain rfl (fun K hK => ?_)
                  go_simp
                  refine hK _ _ ?_
                  clear hK K
                  refine wpList_plain rfl (fun K hK => ?_)
                  go_simp
                  refine (NOD.out w4 (btrans hbel.out hb4) _ _ hfc (StrsAt.of_own own4)).mono ?_
                  rintro e w5 ⟨row, rfl, hr4, hr1, hrw5, hb5⟩
                  refine hK _ _ ?_
                  clear hK K NOD RC2
                  have own5 : OwnR w5 wr.heap.size TStr 1 fa F.length fc (strV F) := OwnR.keeps (S := fun _ => False) own4 (Keeps.of_below hb5) (fun _ _ e => e)
                  obtain ⟨ga, efa⟩ := FA.out w5 fa fc own5
                  subst efa
                  replace hrw5 := Lib.hid hrw5
                  refine wpList_plain rfl (fun K hK => ?_)
                  go_simp
                  refine hK _ _ ?_
                  clear hK K
                  refine wpList_plain rfl (fun K hK => ?_)
                  go_simp
                  refine hK _ _ ?_
                  clear hK K
                  refine wpList_plain rfl (fun K hK => ?_)
                  go_simp
                  refine hK _ _ ?_
                  clear hK K
                  refine wpList_plain rfl (fun K hK => ?_)
                  go_simp
                  refine hK _ _ ?_
                  clear hK K
                  obtain ⟨w6, hw6⟩ : ∃ w6, w6 = w5.alloc (.cells #[.int .u64 0, .int .u64 0, .int .u64 0, .slice none 0 0] TAn) := ⟨_, rfl⟩
                  obtain ⟨gx, hgx⟩ : ∃ g, g = w5.heap.size := ⟨_, rfl⟩
                  have r6 : RowAt w6 gx TAn [.int .u64 0, .int .u64 0, .int .u64 0, .slice none 0 0] := by rw [hw6]; exact RowAt.new #[.int .u64 0, .int .u64 0, .int .u64 0, .slice none 0 0] hgx
                  have b6 : Below w5.heap.size w5 w6 := by rw [hw6]; exact balloc (Below.refl _ _) _
                  rw [← hw6, ← hgx]
                  replace hw6 := Lib.hid hw6
                  refine list_store (l := row) infoAn r6 rfl hr4 hr1 rfl 12 108 rfl rfl rfl ?_
                  intro w7 q7 k7
                  have b57 : Below w5.heap.size w5 w7 := k7.below b6 (fun j hj => by rw [hj, hgx]; exact Nat.le_refl _)
                  replace hgx := Lib.hid hgx
                  have own7 : OwnR w7 wr.heap.size TStr 1 (some ⟨ga, 0, none⟩) F.length fc (strV F) := OwnR.keeps (S := fun _ => False) own5 (Keeps.of_below b57) (fun _ _ e => e)
                  have cf := CF.out w7 ga fc own7
                  have S7 := ((hS.out.below hb4 neUI).below hb5 neUI).below b57 neUI
                  have R7 := ((rg2.out.below hb4).below hb5).below b57
                  have B7 := btrans (btrans (btrans hbel.out hb4) hb5) b57
                  have b7r := btrans (btrans hb4 hb5) b57
                  have c2 : w7.cell? ⟨g, 2, none⟩ = some (.slice na B.nodes.length nc) := S7.box.cell 2
                  replace S7 := Lib.hid S7
                  replace R7 := Lib.hid R7
                  replace B7 := Lib.hid B7
                  replace b7r := Lib.hid b7r
                  replace b57 := Lib.hid b57
                  replace hb5 := Lib.hid hb5
                  replace hb4 := Lib.hid hb4
                  clear own4 own5 own7 r6 b6 k7 CF FA
                  refine wpList_plain rfl (fun K hK => ?_)
                  go_simp
                  refine hK _ _ ?_
                  clear hK K
                  refine wpList_nil ?_
                  go_upto_region 22 with (fail)
                  refine wp_region_list ?_
                  refine wpList_plain rfl (fun K hK => ?_)
                  go_simp
                  refine hK _ _ ?_
                  clear hK K
                  refine wpList_plain rfl (fun K hK => ?_)
                  go_simp
                  refine hK _ _ ?_
                  clear hK K
                  refine list_load undAn infoAn q7 hr4 rfl 12 rfl rfl ?_
                  refine wpList_plain rfl (fun K hK => ?_)
                  go_simp
                  rw [build4 hr4]
                  refine hK _ _ ?_
                  clear hK K
                  obtain ⟨w8, hw8⟩ : ∃ w8, w8 = w7.alloc (.cells row.toArray TAn) := ⟨_, rfl⟩
                  obtain ⟨g8, hg8⟩ : ∃ g8, g8 = w7.heap.size := ⟨_, rfl⟩
                  have r8 : RowAt w8 g8 TAn row := by rw [hw8]; exact RowAt.new row.toArray hg8
                  have b78 : Below w7.heap.size w7 w8 := by rw [hw8]; exact balloc (Below.refl _ _) _
                  rw [← hw8, ← hg8]
                  replace hw8 := Lib.hid hw8
                  replace hg8 := Lib.hid hg8
                  have S8 := S7.out.below b78 neUI
                  have bh8 : w.heap.size ≤ w8.heap.size := (btrans B7.out b78).size
                  refine wp_appG rfl (.tmp 118) (.tmp 120) 23 TAn (.agg #[.int .u64 0, .int .u64 0, .int .u64 0, .slice none 0 0]) 4 48 rfl Tryd.underlying23 infoAn3 rfl (by decide) w.heap.size na B.nodes.length nc cells rfl S8.own (some ⟨g8, 0, none⟩) 1 1 row rfl (by omega) (SrcAt.row r8) hr1 (by unfold maxLen; omega) (by omega) bh8 ?_
                  intro a9 c9 w9 own9 hg9
                  have bx9 : RowAt w9 g AUT [.int .i64 B.sets, .slice ia B.init.length ic, .slice na B.nodes.length nc] := S8.box.keep (hg9.block g S8.box.lt (fun e => by
                    obtain ⟨_, c, hc⟩ := own_type S8.own e.symm
                    rw [show w8.heap[g]? = _ from S8.box] at hc
                    injection hc with hc
                    injection hc with _ hc _
                    exact neUA hc.symm))
                  have R9 : RowAt w9 g2 AUT zAU := (R7.out.below b78).keep (hg9.block g2 (R7.out.below b78).lt (fun e => by
                    obtain ⟨_, c, hc⟩ := own_type S8.own e.symm
                    rw [show w8.heap[g2]? = _ from R7.out.below b78] at hc
                    injection hc with hc
                    injection hc with _ hc _
                    exact neUA hc.symm))
                  have c29 : w9.cell? ⟨g, 2, none⟩ = some (.slice na B.nodes.length nc) := bx9.cell 2
                  have f29 := bx9.free 2
                  have bx10 := bx9.set 2 (.slice a9 (B.nodes.length + 1) c9)
                  have k10 : Keeps w9 (w9.setCell ⟨g, 2, none⟩ (.slice a9 (B.nodes.length + 1) c9)) (fun j => j = g) := Keeps.set _ _ _ _ rfl
                  have PU := AuB.push S7.out neUI neUA b78 own9 hg9 bx9 k10 bx10
                  have q5 : RowAt (w9.setCell ⟨g, 2, none⟩ (.slice a9 (B.nodes.length + 1) c9)) g2 AUT zAU := RowAt.keeps R9 k10 (by have := hgg.out; omega)
                  have B5 : Below w.heap.size w (w9.setCell ⟨g, 2, none⟩ (.slice a9 (B.nodes.length + 1) c9)) := PU.1.below B7.out (Nat.le_refl _)
                  clear PU bx10 k10 bx9 R9 own9 hg9 r8 b78 S8
                  refine wpList_plain rfl (fun K hK => ?_)
                  go_simp
                  refine hK _ _ ?_
                  clear hK K
                  refine wpList_plain rfl (fun K hK => ?_)
                  go_simp
                  refine hK _ _ ?_
                  clear hK K
                  refine wpList_nil ?_
                  generalize w9.setCell ⟨g, 2, none⟩ (.slice a9 (B.nodes.length + 1) c9) = w10 at *
                  have ho2 := ho.out
                  rw [hst] at ho2
                  dsimp only at ho2
                  subst ho2
                  clear hst ho hS hb4 hb5 rg2 S7 R7 B7 c29 f29
                  go_upto_region 24 with (fail)
                  refine wp_region_list ?_
                  refine wpList_plain rfl (fun K hK => ?_)
                  go_simp
                  refine hK _ _ ?_
                  clear hK K
                  refine wpList_plain rfl (fun K hK => ?_)
                  go_simp
                  refine hK _ _ ?_
                  clear hK K
                  refine list_store (l := zAU) infoAU q5 rfl rfl (au3_one _ _ _ rfl rfl) rfl 2 125 rfl rfl rfl ?_
                  intro w6 q6 k6
                  have fin : Hid (ParsV w (au0, k, 3) (.returned (.tuple #[.agg #[.int .i64 0, .slice none 0 0, .slice none 0 0], .int .i64 ((k : Nat) : Int), .int .i64 3])) w6) := ParsV.no (k6.below B5 (fun j hj => by rw [hj, hg2.out]; exact Nat.le_refl _))
                  have q6' := Lib.hid q6
                  clear q5 B5 k6 q6
                  refine wpList_plain rfl (fun K hK => ?_)
                  go_simp
                  refine hK _ _ ?_
                  clear hK K
                  refine wpList_plain rfl (fun K hK => ?_)
                  go_simp
                  refine hK _ _ ?_
                  clear hK K
                  refine wpList_nil ?_
                  go_wp2
                  refine bodyPost_ret (v := .tuple #[.agg (zAU).toArray, .int .i64 ((k : Nat) : Int), .int .i64 3]) (results_ctt (a := 2) (b := 3) (c := 4) (by kernel_rfl) rfl rfl rfl (loadVar_whole undAU infoAU q6'.out rfl)) rfl ?_
                  exact fin.out
                | some y =>
                  subst hbb
                  go_wp2_with fail
                  refine C1.out.mono ?_
                  rintro e w4 ⟨fa, fc, rfl, own4, hb4⟩
                  have hfc := (OwnR.caps own4).1
                  have RC2 := RC1 fa fc
                  clear RC1 C1
                  go_upto_region 20 with (fail)
                  refine wp_region_list ?_
                  refine wpList_plain rfl (fun K hK => ?_)
                  go_simp
                  refine hK _ _ ?_
                  clear hK K
                  refine wpList_plain rfl (fun K hK => ?_)
                  go_simp
                  refine hK _ _ ?_
                  clear hK K
                  refine wpList_plain rfl (fun K hK => ?_)
                  go_simp
                  refine (NOD.out w4 (btrans hbel.out hb4) _ _ hfc (StrsAt.of_own own4)).mono ?_
                  rintro e w5 ⟨row, rfl, hr4, hr1, hrw5, hb5⟩
                  refine hK _ _ ?_
                  clear hK K NOD RC2
                  have own5 : OwnR w5 wr.heap.size TStr 1 fa F.length fc (strV F) := OwnR.keeps (S := fun _ => False) own4 (Keeps.of_below hb5) (fun _ _ e => e)
                  obtain ⟨ga, efa⟩ := FA.out w5 fa fc own5
                  subst efa
                  replace hrw5 := Lib.hid hrw5
                  refine wpList_plain rfl (fun K hK => ?_)
                  go_simp
                  refine hK _ _ ?_
                  clear hK K
                  refine wpList_plain rfl (fun K hK => ?_)
                  go_simp
                  refine hK _ _ ?_
                  clear hK K
                  refine wpList_plain rfl (fun K hK => ?_)
                  go_simp
                  refine hK _ _ ?_
                  clear hK K
                  refine wpList_plain rfl (fun K hK => ?_)
                  go_simp
                  refine hK _ _ ?_
                  clear hK K
                  obtain ⟨w6, hw6⟩ : ∃ w6, w6 = w5.alloc (.cells #[.int .u64 0, .int .u64 0, .int .u64 0, .slice none 0 0] TAn) := ⟨_, rfl⟩
                  obtain ⟨gx, hgx⟩ : ∃ g, g = w5.heap.size := ⟨_, rfl⟩
                  have r6 : RowAt w6 gx TAn [.int .u64 0, .int .u64 0, .int .u64 0, .slice none 0 0] := by rw [hw6]; exact RowAt.new #[.int .u64 0, .int .u64 0, .int .u64 0, .slice none 0 0] hgx
                  have b6 : Below w5.heap.size w5 w6 := by rw [hw6]; exact balloc (Below.refl _ _) _
                  rw [← hw6, ← hgx]
                  replace hw6 := Lib.hid hw6
                  refine list_store (l := row) infoAn r6 rfl hr4 hr1 rfl 12 108 rfl rfl rfl ?_
                  intro w7 q7 k7
                  have b57 : Below w5.heap.size w5 w7 := k7.below b6 (fun j hj => by rw [hj, hgx]; exact Nat.le_refl _)
                  replace hgx := Lib.hid hgx
                  have own7 : OwnR w7 wr.heap.size TStr 1 (some ⟨ga, 0, none⟩) F.length fc (strV F) := OwnR.keeps (S := fun _ => False) own5 (Keeps.of_below b57) (fun _ _ e => e)
                  have cf := CF.out w7 ga fc own7
                  have S7 := ((hS.out.below hb4 neUI).below hb5 neUI).below b57 neUI
                  have R7 := ((rg2.out.below hb4).below hb5).below b57
                  have B7 := btrans (btrans (btrans hbel.out hb4) hb5) b57
                  have b7r := btrans (btrans hb4 hb5) b57
                  have c2 : w7.cell? ⟨g, 2, none⟩ = some (.slice na B.nodes.length nc) := S7.box.cell 2
                  replace S7 := Lib.hid S7
                  replace R7 := Lib.hid R7
                  replace B7 := Lib.hid B7
                  replace b7r := Lib.hid b7r
                  replace b57 := Lib.hid b57
                  replace hb5 := Lib.hid hb5
                  replace hb4 := Lib.hid hb4
                  clear own4 own5 own7 r6 b6 k7 CF FA
                  refine wpList_plain rfl (fun K hK => ?_)
                  go_simp
                  refine hK _ _ ?_
                  clear hK K
                  refine wpList_nil ?_
                  go_upto_region 22 with (fail)
                  refine wp_region_list ?_
                  refine wpList_plain rfl (fun K hK => ?_)
                  go_simp
                  refine hK _ _ ?_
                  clear hK K
                  refine wpList_plain rfl (fun K hK => ?_)
                  go_simp
                  refine hK _ _ ?_
                  clear hK K
                  refine list_load undAn infoAn q7 hr4 rfl 12 rfl rfl ?_
                  refine wpList_plain rfl (fun K hK => ?_)
                  go_simp
                  rw [build4 hr4]
                  refine hK _ _ ?_
                  clear hK K
                  obtain ⟨w8, hw8⟩ : ∃ w8, w8 = w7.alloc (.cells row.toArray TAn) := ⟨_, rfl⟩
                  obtain ⟨g8, hg8⟩ : ∃ g8, g8 = w7.heap.size := ⟨_, rfl⟩
                  have r8 : RowAt w8 g8 TAn row := by rw [hw8]; exact RowAt.new row.toArray hg8
                  have b78 : Below w7.heap.size w7 w8 := by rw [hw8]; exact balloc (Below.refl _ _) _
                  rw [← hw8, ← hg8]
                  replace hw8 := Lib.hid hw8
                  replace hg8 := Lib.hid hg8
                  have S8 := S7.out.below b78 neUI
                  have bh8 : w.heap.size ≤ w8.heap.size := (btrans B7.out b78).size
                  refine wp_appG rfl (.tmp 118) (.tmp 120) 23 TAn (.agg #[.int .u64 0, .int .u64 0, .int .u64 0, .slice none 0 0]) 4 48 rfl Tryd.underlying23 infoAn3 rfl (by decide) w.heap.size na B.nodes.length nc cells rfl S8.own (some ⟨g8, 0, none⟩) 1 1 row rfl (by omega) (SrcAt.row r8) hr1 (by unfold maxLen; omega) (by omega) bh8 ?_
                  intro a9 c9 w9 own9 hg9
                  have bx9 : RowAt w9 g AUT [.int .i64 B.sets, .slice ia B.init.length ic, .slice na B.nodes.length nc] := S8.box.keep (hg9.block g S8.box.lt (fun e => by
                    obtain ⟨_, c, hc⟩ := own_type S8.own e.symm
                    rw [show w8.heap[g]? = _ from S8.box] at hc
                    injection hc with hc
                    injection hc with _ hc _
                    exact neUA hc.symm))
                  have R9 : RowAt w9 g2 AUT zAU := (R7.out.below b78).keep (hg9.block g2 (R7.out.below b78).lt (fun e => by
                    obtain ⟨_, c, hc⟩ := own_type S8.own e.symm
                    rw [show w8.heap[g2]? = _ from R7.out.below b78] at hc
                    injection hc with hc
                    injection hc with _ hc _
                    exact neUA hc.symm))
                  have c29 : w9.cell? ⟨g, 2, none⟩ = some (.slice na B.nodes.length nc) := bx9.cell 2
                  have f29 := bx9.free 2
                  have bx10 := bx9.set 2 (.slice a9 (B.nodes.length + 1) c9)
                  have k10 : Keeps w9 (w9.setCell ⟨g, 2, none⟩ (.slice a9 (B.nodes.length + 1) c9)) (fun j => j = g) := Keeps.set _ _ _ _ rfl
                  have PU := AuB.push S7.out neUI neUA b78 own9 hg9 bx9 k10 bx10
                  have q5 : RowAt (w9.setCell ⟨g, 2, none⟩ (.slice a9 (B.nodes.length + 1) c9)) g2 AUT zAU := RowAt.keeps R9 k10 (by have := hgg.out; omega)
                  have B5 : Below w.heap.size w (w9.setCell ⟨g, 2, none⟩ (.slice a9 (B.nodes.length + 1) c9)) := PU.1.below B7.out (Nat.le_refl _)
                  clear PU bx10 k10 bx9 R9 own9 hg9 r8 b78 S8
                  refine wpList_plain rfl (fun K hK => ?_)
                  go_simp
                  refine hK _ _ ?_
                  clear hK K
                  refine wpList_plain rfl (fun K hK => ?_)
                  go_simp
                  refine hK _ _ ?_
                  clear hK K
                  refine wpList_nil ?_
                  generalize w9.setCell ⟨g, 2, none⟩ (.slice a9 (B.nodes.length + 1) c9) = w10 at *
                  have ho2 := ho.out
                  rw [hst] at ho2
                  dsimp only at ho2
                  subst ho2
                  clear hst ho hS hb4 hb5 rg2 S7 R7 B7 c29 f29
                  go_upto_region 24 with (fail)
                  refine wp_region_list ?_
                  refine wpList_plain rfl (fun K hK => ?_)
                  go_simp
                  refine hK _ _ ?_
                  clear hK K
                  refine wpList_plain rfl (fun K hK => ?_)
                  go_simp
                  refine hK _ _ ?_
                  clear hK K
                  refine list_store (l := zAU) infoAU q5 rfl rfl (au3_one _ _ _ rfl rfl) rfl 2 125 rfl rfl rfl ?_
                  intro w6 q6 k6
                  have fin : Hid (ParsV w (au0, k, 3) (.returned (.tuple #[.agg #[.int .i64 0, .slice none 0 0, .slice none 0 0], .int .i64 ((k : Nat) : Int), .int .i64 3])) w6) := ParsV.no (k6.below B5 (fun j hj => by rw [hj, hg2.out]; exact Nat.le_refl _))
                  have q6' := Lib.hid q6
                  clear q5 B5 k6 q6
                  refine wpList_plain rfl (fun K hK => ?_)
                  go_simp
                  refine hK _ _ ?_
                  clear hK K
                  refine wpList_plain rfl (fun K hK => ?_)
                  go_simp
                  refine hK _ _ ?_
                  clear hK K
                  refine wpList_nil ?_
                  go_wp2
                  refine bodyPost_ret (v := .tuple #[.agg (zAU).toArray, .int .i64 ((k : Nat) : Int), .int .i64 3]) (results_ctt (a := 2) (b := 3) (c := 4) (by kernel_rfl) rfl rfl rfl (loadVar_whole undAU infoAU q6'.out rfl)) rfl ?_
                  exact fin.out
        · have hlI : ¬ (k : Int) < (n : Int) := by omega
          have he : k = ls.length := by have := hn.out; omega
          obtain ⟨B, ia, ic, na, nc, cells, S, hr, hB⟩ := R.out.st
          have hrd : readP au0 0 ls = .inl B := by rw [hr, he, List.drop_length]; rfl
          have ho2 := ho.out
          rw [hrd] at ho2
          dsimp only at ho2
          have hrow := Lib.hid R.out.row
          have bel := Lib.hid R.out.bel
          have lsl := hn.out
          rw [← lsl] at ho2
          clear CT2 hr hrd RC
          by_cases h2 : n < 2
          · rw [if_pos h2] at ho2
            have h2I : (n : Int) < 2 := by omega
            subst ho2
            have q5 := rg2.out
            have B5 := bel.out
            clear S hB R rg2 bel hrow ho h2 lsl he hlt
            go_upto_region 26 with (fail)
            refine wp_region_list ?_
            refine wpList_plain rfl (fun K hK => ?_)
            go_simp
            refine hK _ _ ?_
            clear hK K
            refine wpList_plain rfl (fun K hK => ?_)
            go_simp
            refine hK _ _ ?_
            clear hK K
            refine wpList_plain rfl (fun K hK => ?_)
            go_simp
            refine hK _ _ ?_
            clear hK K
            refine list_store (l := zAU) infoAU q5 rfl rfl (au3_one _ _ _ rfl rfl) rfl 2 130 rfl rfl rfl ?_
            intro w6 q6 k6
            have fin : Hid (ParsV w (au0, n, 4) (.returned (.tuple #[.agg #[.int .i64 0, .slice none 0 0, .slice none 0 0], .int .i64 ((n : Nat) : Int), .int .i64 4])) w6) := ParsV.no (k6.below B5 (fun j hj => by rw [hj, hg2.out]; exact Nat.le_refl _))
            have q6' := Lib.hid q6
            clear q5 B5 k6 q6
            refine wpList_plain rfl (fun K hK => ?_)
            go_simp
            refine hK _ _ ?_
            clear hK K
            refine wpList_plain rfl (fun K hK => ?_)
            go_simp
            refine hK _ _ ?_
            clear hK K
            refine wpList_nil ?_
            go_wp2
            refine bodyPost_ret (v := .tuple #[.agg (zAU).toArray, .int .i64 ((n : Nat) : Int), .int .i64 4]) (results_ctt (a := 2) (b := 3) (c := 4) (by kernel_rfl) rfl rfl rfl (loadVar_whole undAU infoAU q6'.out rfl)) rfl ?_
            exact fin.out
          · rw [if_neg h2] at ho2
            have h2I : ¬ (n : Int) < 2 := by omega
            obtain ⟨okB, fewB⟩ := hB.ok (by omega)
            have CK := Lib.hid (rcheck_any wr ia na ic nc B S.au okB)
            have c0 : wr.cell? ⟨g, 0, none⟩ = some (.int .i64 B.sets) := S.box.cell 0
            have c1 : wr.cell? ⟨g, 1, none⟩ = some (.slice ia B.init.length ic) := S.box.cell 1
            have c2 : wr.cell? ⟨g, 2, none⟩ = some (.slice na B.nodes.length nc) := S.box.cell 2
            have hln : (linesP B).length = n := by rw [lines_len, hB.len]; omega
            have S5 := Lib.hid S
            have okH := Lib.hid okB
            have fewH := Lib.hid fewB
            have hoH := Lib.hid ho2
            replace hln := Lib.hid hln
            replace lsl := Lib.hid lsl
            clear S hB R ho h2 he hlt okB fewB ho2
            go_wp2_with fail
            refine CK.out.mono ?_
            rintro e w5 ⟨rfl, hb5⟩
            have ho2 := hoH.out
            by_cases hc : chk B = 0
            · rw [if_neg (fun h => h hc)] at ho2
              have S6 := S5.out.below hb5 neUI
              have B5 := btrans bel.out hb5
              obtain ⟨wt, hwt⟩ : ∃ wt : ByteArray, wt = ⟨(wholeP B).toArray⟩ := ⟨_, rfl⟩
              have WH : Hid (Calls Tryd.prog 20 #[.agg #[.int .i64 B.sets, .slice ia B.init.length ic, .slice na B.nodes.length nc]] w5 fun e w' => e = .returned (.string wt) ∧ Below w5.heap.size w5 w') := by
                rw [hwt]
                exact rwhole_any w5 ia na ic nc B S6.au okH.out fewH.out
              have row5 := Lib.hid (OwnR.keeps (S := fun _ => False) hrow.out (Keeps.of_below hb5) (fun _ _ e => e))
              have q50 := Lib.hid (rg2.out.below hb5)
              have c0 : w5.cell? ⟨g, 0, none⟩ = some (.int .i64 B.sets) := S6.box.cell 0
              have c1 : w5.cell? ⟨g, 1, none⟩ = some (.slice ia B.init.length ic) := S6.box.cell 1
              have c2 : w5.cell? ⟨g, 2, none⟩ = some (.slice na B.nodes.length nc) := S6.box.cell 2
              have ho3 := Lib.hid ho2
              have BB := Lib.hid B5
              have SS := Lib.hid S6
              have CW : Hid (∀ v, wt.size ≤ 1000000000000 → Calls Tryd.prog 27 #[.string wt, .int .u8 10] v fun e w' => GivesS v (linesP B ++ [[]]) e w') := fun v hz => by
                have h1 := rcut_any v wt hz 10
                have h2 : cutP 10 wt.data.toList = linesP B ++ [[]] := by
                  rw [hwt]
                  exact cut_lines _ (lines_byte B)
                rw [h2] at h1
                exact h1
              have WS : Hid (wt.size ≤ 1000000000000) := by
                show _ ≤ _
                rw [hwt]
                have hA := whole_le okH.out fewH.out
                refine Nat.le_trans (Nat.le_of_eq ?_) hA
                exact List.size_toArray
              rw [hc]
              replace hwt := Lib.hid hwt
              clear S6 B5 hb5 CK hrow rg2 bel S5 okH fewH hoH ho2 hc
              go_wp2_with fail
              refine WH.out.mono ?_
              rintro e w6 ⟨rfl, hb6⟩
              have CW6 := Lib.hid (CW.out w6 WS.out)
              clear WH CW WS
              go_wp2_with fail
              refine CW6.out.mono ?_
              rintro e w7 ⟨ta, tc, rfl, own7, hb7⟩
              have b67 := btrans hb6 hb7
              have S7 := SS.out.below b67 neUI
              have row7 := OwnR.keeps (S := fun _ => False) row5.out (Keeps.of_below b67) (fun _ _ e => e)
              have q70 := Lib.hid (q50.out.below b67)
              have B7 := Lib.hid (btrans BB.out b67)
              obtain ⟨lb, el, _, _⟩ := OwnR.addr row7 (by rw [← hm.out]; have := hmn.out; omega)
              subst el
              have row7H := Lib.hid row7
              have d0 : w7.cell? ⟨g, 0, none⟩ = some (.int .i64 B.sets) := S7.box.cell 0
              have d1 : w7.cell? ⟨g, 1, none⟩ = some (.slice ia B.init.length ic) := S7.box.cell 1
              have d2 : w7.cell? ⟨g, 2, none⟩ = some (.slice na B.nodes.length nc) := S7.box.cell 2
              have tln : (linesP B ++ [[]]).length = n + 1 := by rw [List.length_append, hln.out]; rfl
              obtain ⟨tb, et, _, _⟩ := OwnR.addr own7 (by rw [tln]; omega)
              subst et
              have own7H := Lib.hid own7
              have E0 : Hid (∀ j, j < 0 → ls[j]? = (linesP B)[j]?) := fun j hj => absurd hj (Nat.not_lt_zero _)
              have CL7 : Hid (∀ v, Below w7.heap.size w7 v → ∀ j, j < n → (v.cell? ⟨lb, j, none⟩ = (strV CP)[j]?) ∧ v.cell? ⟨tb, j, none⟩ = (strV (linesP B ++ [[]]))[j]?) := fun v hb j hj => by
                have o1 := OwnR.keeps (S := fun _ => False) row7 (Keeps.of_below hb) (fun _ _ e => e)
                have o2 := OwnR.keeps (S := fun _ => False) own7 (Keeps.of_below hb) (fun _ _ e => e)
                exact ⟨OwnR.cell o1 j (by rw [← hm.out]; have := hmn.out; omega), OwnR.cell o2 j (by rw [tln]; omega)⟩
              have S7H := Lib.hid S7
              have z7 : Hid (Below w7.heap.size w7 w7) := Below.refl _ _
              rw [tln]
              clear hb6 hb7 b67 SS BB q50 row5 c0 c1 c2 own7 row7 S7 CW6 tln own7H row7H
              go_wp2
              go_loopw [3, 4, 16] (fun av cv iv wr => ∃ j : Nat, av = .int .i64 0 ∧ cv = .int .i64 0 ∧ iv = .int .i64 (j : Int) ∧ j ≤ n ∧ Hid (∀ i, i < j → ls[i]? = (linesP B)[i]?) ∧ Hid (Below w7.heap.size w7 wr)) (fun _ _ iv _ => n - (intOf iv).toNat)
              case atStart => exact ⟨0, rfl, rfl, rfl, Nat.zero_le _, E0, z7⟩
              case round =>
                obtain ⟨j, rfl, rfl, rfl, hj, E, Z⟩ := hrel
                clear E0 z7 d0 d1 d2
                by_cases hlt : j < n
                · have hlI : (j : Int) < (n : Int) := by omega
                  have hj1 : j < (linesP B).length := by have := hln.out; omega
                  have hj2 : j < ls.length := by have := lsl.out; omega
                  obtain ⟨cl, cj⟩ := CL7.out wr Z.out j hlt
                  rw [hget.out j hj2] at cl
                  have hz : (strV (linesP B ++ [[]]))[j]? = some (.string ⟨((linesP B)[j]'hj1).toArray⟩) := by
                    rw [strV_at _ j (by rw [List.length_append]; omega), List.getElem_append_left hj1]
                  rw [hz] at cj
                  by_cases he : ls[j] = (linesP B)[j]
                  · have hE : Hid (∀ i, i < j + 1 → ls[i]? = (linesP B)[i]?) := fun i hi => by
                      by_cases e : i = j
                      · subst e
                        rw [List.getElem?_eq_getElem hj1, List.getElem?_eq_getElem hj2, he]
                      · exact E.out i (by omega)
                    rw [he] at cl
                    generalize (⟨((linesP B)[j]'hj1).toArray⟩ : ByteArray) = q at cj cl
                    clear he hj1 hj2 E ho3 hz
                    go_wp2_with fail
                    go_quiet (fail)
                    have Zq := Lib.hid (btrans Z.out (bdrewN (n := nq) (Below.refl wr.heap.size wr)))
                    go_wp2
                    go_roundw
                    case rel => exact ⟨j + 1, rfl, rfl, by go_num, by omega, hE, Zq⟩
                    case measure => simp [intOf]; omega
                  · have hne : ¬ (⟨(ls[j]'hj2).toArray⟩ : ByteArray) = ⟨((linesP B)[j]'hj1).toArray⟩ := fun e => he ((str_eq _ _).1 e)
                    have hqB := str_no hne
                    have hdf : diffP 0 ls (linesP B) = some (0 + j) := diff_hit ls (linesP B) 0 j E.out hj2 hj1 (fun e => he (by
                      rw [List.getElem?_eq_getElem hj1, List.getElem?_eq_getElem hj2] at e
                      injection e with e))
                    rw [Nat.zero_add] at hdf
                    have ho4 := ho3.out
                    rw [hdf] at ho4
                    dsimp only at ho4
                    subst ho4
                    have hqP : ¬ (⟨(ls[j]'hj2).toArray⟩ : ByteArray).toList = (⟨((linesP B)[j]'hj1).toArray⟩ : ByteArray).toList := fun e => by rw [e, beq_self_eq_true] at hqB; cases hqB
                    generalize (⟨(ls[j]'hj2).toArray⟩ : ByteArray) = q at cl hqB hqP
                    generalize (⟨((linesP B)[j]'hj1).toArray⟩ : ByteArray) = q' at cj hqB hqP
                    clear he hne hj1 hj2 E ho3 hdf hz
                    go_wp2_with fail
                    go_quiet (fail)
                    have Zq := btrans Z.out (bdrewN (n := nq) (Below.refl wr.heap.size wr))
                    have q5 := q70.out.below Zq
                    have B5 := btrans B7.out Zq
                    clear Zq q70 B7 Z
                    go_upto_region 35 with (fail)
                    refine wp_region_list ?_
                    refine wpList_plain rfl (fun K hK => ?_)
                    go_simp
                    refine hK _ _ ?_
                    clear hK K
                    refine wpList_plain rfl (fun K hK => ?_)
                    go_simp
                    refine hK _ _ ?_
                    clear hK K
                    refine list_store (l := zAU) infoAU q5 rfl rfl (au3_one _ _ _ rfl rfl) rfl 2 159 rfl rfl rfl ?_
                    intro w6 q6 k6
                    have fin : Hid (ParsV w (au0, j, 13) (.returned (.tuple #[.agg #[.int .i64 0, .slice none 0 0, .slice none 0 0], .int .i64 ((j : Nat) : Int), .int .i64 13])) w6) := ParsV.no (k6.below B5 (fun j hj => by rw [hj, hg2.out]; exact Nat.le_refl _))
                    have q6' := Lib.hid q6
                    clear q5 B5 k6 q6
                    refine wpList_plain rfl (fun K hK => ?_)
                    go_simp
                    refine hK _ _ ?_
                    clear hK K
                    refine wpList_plain rfl (fun K hK => ?_)
                    go_simp
                    refine hK _ _ ?_
                    clear hK K
                    refine wpList_nil ?_
                    go_wp2
                    refine bodyPost_ret (v := .tuple #[.agg (zAU).toArray, .int .i64 ((j : Nat) : Int), .int .i64 13]) (results_ctt (a := 2) (b := 3) (c := 4) (by kernel_rfl) rfl rfl rfl (loadVar_whole undAU infoAU q6'.out rfl)) rfl ?_
                    exact fin.out
                · have hlI : ¬ (j : Int) < (n : Int) := by omega
                  have hjn : j = n := by omega
                  subst hjn
                  have hsame : ls = linesP B := by
                    refine List.ext_getElem? fun i => ?_
                    by_cases hi : i < j
                    · exact E.out i hi
                    · rw [List.getElem?_eq_none (by have := lsl.out; omega), List.getElem?_eq_none (by have := hln.out; omega)]
                  have ho4 := ho3.out
                  rw [hsame, diff_self] at ho4
                  dsimp only at ho4
                  subst ho4
                  have q5 := q70.out.below Z.out
                  have B5 := btrans B7.out Z.out
                  have S8 := S7H.out.below Z.out neUI
                  have e0 : wr.cell? ⟨g, 0, none⟩ = some (.int .i64 B.sets) := S8.box.cell 0
                  have e1 : wr.cell? ⟨g, 1, none⟩ = some (.slice ia B.init.length ic) := S8.box.cell 1
                  have e2 : wr.cell? ⟨g, 2, none⟩ = some (.slice na B.nodes.length nc) := S8.box.cell 2
                  clear hsame ho3 E Z q70 B7
                  go_upto_region 36 with (fail)
                  refine wp_region_list ?_
                  refine wpList_plain rfl (fun K hK => ?_)
                  go_simp
                  refine hK _ _ ?_
                  clear hK K
                  refine list_store (l := [.int .i64 B.sets, .slice ia B.init.length ic, .slice na B.nodes.length nc]) infoAU q5 rfl rfl (au3_one _ _ _ rfl rfl) rfl 2 161 rfl rfl rfl ?_
                  intro w9 q9 k9
                  have A9 : AuAt w9 ia B.init.length na B.nodes.length B := S8.au.keepsBox S8 k9 q5 (by have := hgg.out; omega)
                  have fin : Hid (ParsV w (B, 0, 0) (.returned (.tuple #[.agg #[.int .i64 B.sets, .slice ia B.init.length ic, .slice na B.nodes.length nc], .int .i64 ((0 : Nat) : Int), .int .i64 0])) w9) := ⟨ia, ic, na, nc, rfl, A9, k9.below B5 (fun j hj => by rw [hj, hg2.out]; exact Nat.le_refl _)⟩
                  have q9' := Lib.hid q9
                  clear q5 B5 k9 q9 S8 S7H A9
                  refine wpList_plain rfl (fun K hK => ?_)
                  go_simp
                  refine hK _ _ ?_
                  clear hK K
                  refine wpList_plain rfl (fun K hK => ?_)
                  go_simp
                  refine hK _ _ ?_
                  clear hK K
                  refine wpList_nil ?_
                  go_wp2
                  refine bodyPost_ret (v := .tuple #[.agg ([.int .i64 B.sets, .slice ia B.init.length ic, .slice na B.nodes.length nc] : List Value).toArray, .int .i64 ((0 : Nat) : Int), .int .i64 0]) (results_ctt (a := 2) (b := 3) (c := 4) (by kernel_rfl) rfl rfl rfl (loadVar_whole undAU infoAU q9'.out rfl)) rfl ?_
                  exact fin.out
            · rw [if_pos hc] at ho2
              have hcB : (chk B != 0) = true := by rw [bne_iff_ne]; exact hc
              have q5 := rg2.out.below hb5
              have B5 := btrans bel.out hb5
              obtain ⟨c, hcc⟩ : ∃ c, c = chk B := ⟨_, rfl⟩
              rw [← hcc] at ho2 hcB ⊢
              subst ho2
              clear rg2 bel hrow CK c0 c1 c2 S5 okH fewH hoH hb5 hc hcc
              go_upto_region 29 with (fail)
              refine wp_region_list ?_
              refine wpList_plain rfl (fun K hK => ?_)
              go_simp
              refine hK _ _ ?_
              clear hK K
              refine wpList_plain rfl (fun K hK => ?_)
              go_simp
              refine hK _ _ ?_
              clear hK K
              refine wpList_plain rfl (fun K hK => ?_)
              go_simp
              refine hK _ _ ?_
              clear hK K
              refine wpList_plain rfl (fun K hK => ?_)
              go_simp
              refine hK _ _ ?_
              clear hK K
              refine list_store (l := zAU) infoAU q5 rfl rfl (au3_one _ _ _ rfl rfl) rfl 2 137 rfl rfl rfl ?_
              intro w6 q6 k6
              have fin : Hid (ParsV w (au0, n, c) (.returned (.tuple #[.agg #[.int .i64 0, .slice none 0 0, .slice none 0 0], .int .i64 ((n : Nat) : Int), .int .i64 c])) w6) := ParsV.no (k6.below B5 (fun j hj => by rw [hj, hg2.out]; exact Nat.le_refl _))
              have q6' := Lib.hid q6
              clear q5 B5 k6 q6
              refine wpList_plain rfl (fun K hK => ?_)
              go_simp
              refine hK _ _ ?_
              clear hK K
              refine wpList_plain rfl (fun K hK => ?_)
              go_simp
              refine hK _ _ ?_
              clear hK K
              refine wpList_nil ?_
              go_wp2
              refine bodyPost_ret (v := .tuple #[.agg (zAU).toArray, .int .i64 ((n : Nat) : Int), .int .i64 c]) (results_ctt (a := 2) (b := 3) (c := 4) (by kernel_rfl) rfl rfl rfl (loadVar_whole undAU infoAU q6'.out rfl)) rfl ?_
              exact fin.out
    · rw [if_pos hlast] at ho
      obtain ⟨m, hm⟩ : ∃ m, m = CP.length := ⟨_, rfl⟩
      rw [← hm] at ho
      obtain ⟨cn, hcn⟩ : ∃ cn, cn = m - 1 := ⟨_, rfl⟩
      rw [← hcn] at ho
      have hmI : (m : Int) - 1 = (cn : Int) := by omega
      have hmW : IntKind.i64.wrap (cn : Int) = (cn : Int) := IntWalk.i64_in _ (by omega)
      subst ho
      have r1H := Lib.hid r1
      have B1H := Lib.hid B1
      replace hw1 := Lib.hid hw1
      replace hg2 := Lib.hid hg2
      have hmH := Lib.hid hm
      by_cases hem : L = []
      · have hsz : s.toList.isEmpty = true := by rw [ByteArray.toList_eq, ← hL, hem]; rfl
        clear h20 hLn hL hd r1 B1 hlast hem hCP hcl hc0 hs hm hcn
        go_enter Tryd.func13, Tryd.ntmps13
        go_upto_region 3 with (fail)
        rw [← hw1.out, ← hg2.out]
        go_wp2_with fail
        refine CT.out.mono ?_
        rintro e w2 ⟨oa, oc, rfl, own2, hb2⟩
        rw [← hmH.out]
        have q5 := r1H.out.below hb2
        have B5 := btrans B1H.out hb2
        clear own2 hb2 CT
        go_upto_region 5 with (fail)
        refine wp_region_list ?_
        refine wpList_plain rfl (fun K hK => ?_)
        go_simp
        refine hK _ _ ?_
        clear hK K
        refine wpList_plain rfl (fun K hK => ?_)
        go_simp
        refine hK _ _ ?_
        clear hK K
        refine wpList_plain rfl (fun K hK => ?_)
        go_simp
        refine hK _ _ ?_
        clear hK K
        refine wpList_plain rfl (fun K hK => ?_)
        go_simp
        refine hK _ _ ?_
        clear hK K
        refine list_store (l := zAU) infoAU q5 rfl rfl (au3_one _ _ _ rfl rfl) rfl 2 33 rfl rfl rfl ?_
        intro w6 q6 k6
        have fin : Hid (ParsV w (au0, cn, 4) (.returned (.tuple #[.agg #[.int .i64 0, .slice none 0 0, .slice none 0 0], .int .i64 ((cn : Nat) : Int), .int .i64 4])) w6) := ParsV.no (k6.below B5 (fun j hj => by rw [hj, hg2.out]; exact Nat.le_refl _))
        have q6' := Lib.hid q6
        clear q5 B5 k6 q6
        refine wpList_plain rfl (fun K hK => ?_)
        go_simp
        refine hK _ _ ?_
        clear hK K
        refine wpList_plain rfl (fun K hK => ?_)
        go_simp
        refine hK _ _ ?_
        clear hK K
        refine wpList_nil ?_
        go_wp2
        refine bodyPost_ret (v := .tuple #[.agg (zAU).toArray, .int .i64 ((cn : Nat) : Int), .int .i64 4]) (results_ctt (a := 2) (b := 3) (c := 4) (by kernel_rfl) rfl rfl rfl (loadVar_whole undAU infoAU q6'.out rfl)) rfl ?_
        exact fin.out
      · have hne : ¬ s.toList = [] := fun e => by rw [ByteArray.toList_eq, ← hL] at e; exact hem e
        have hnE : s.toList.isEmpty = false := by
          cases h : s.toList with
          | nil => exact absurd h hne
          | cons a b => rfl
        have hs0 : 0 < s.size := by
          rcases Nat.eq_zero_or_pos s.size with h | h
          · rw [hLn] at h; exact absurd (List.eq_nil_of_length_eq_zero h) hem
          · exact h
        have hi0 : s.size - 1 < s.size := by omega
        have hlb : ¬ s[s.size - 1]'hi0 = 10 := fun e => hlast (by
          rw [data_at s (s.size - 1) hi0 (by rw [← hL, ← hLn]; exact hi0)] at e
          have h1 := List.getLast?_eq_getElem? (l := L)
          rw [← hLn] at h1
          rw [h1, List.getElem?_eq_getElem (by rw [← hLn]; exact hi0)]
          subst hL
          rw [e])
        have gb : ¬ (s[s.size - 1]'hi0).toNat = 10 := fun e => hlb (UInt8.toNat_inj.1 e)
        have f1 : (((s[s.size - 1]'hi0).toNat : Int) != 10) = true := by rw [bne_iff_ne]; omega
        have f2 : ((s[s.size - 1]'hi0).toNat != 10) = true := by rw [bne_iff_ne]; exact gb
        have hs1I : (1 : Int) ≤ (s.size : Int) := by omega
        have wr1 : IntKind.i64.wrap ((s.size : Int) - 1) = (s.size : Int) - 1 := IntWalk.i64_in _ (by omega)
        have tn1 : ((s.size : Int) - 1).toNat = s.size - 1 := by omega
        have ge0 : (0 : Int) ≤ (s.size : Int) - 1 := by omega
        have lt0 : (s.size : Int) - 1 < (s.size : Int) := by omega
        clear h20 hLn hL hd r1 B1 hlast hem hCP hcl hc0 hs hm hcn hne hlb gb hs0
        go_enter Tryd.func13, Tryd.ntmps13
        go_upto_region 3 with (fail)
        rw [← hw1.out, ← hg2.out]
        go_wp2_with fail
        refine CT.out.mono ?_
        rintro e w2 ⟨oa, oc, rfl, own2, hb2⟩
        rw [← hmH.out]
        have q5 := r1H.out.below hb2
        have B5 := btrans B1H.out hb2
        clear own2 hb2 CT
        go_upto_region 5 with (fail)
        refine wp_region_list ?_
        refine wpList_plain rfl (fun K hK => ?_)
        go_simp
        refine hK _ _ ?_
        clear hK K
        refine wpList_plain rfl (fun K hK => ?_)
        go_simp
        refine hK _ _ ?_
        clear hK K
        refine wpList_plain rfl (fun K hK => ?_)
        go_simp
        refine hK _ _ ?_
        clear hK K
        refine wpList_plain rfl (fun K hK => ?_)
        go_simp
        refine hK _ _ ?_
        clear hK K
        refine list_store (l := zAU) infoAU q5 rfl rfl (au3_one _ _ _ rfl rfl) rfl 2 33 rfl rfl rfl ?_
        intro w6 q6 k6
        have fin : Hid (ParsV w (au0, cn, 4) (.returned (.tuple #[.agg #[.int .i64 0, .slice none 0 0, .slice none 0 0], .int .i64 ((cn : Nat) : Int), .int .i64 4])) w6) := ParsV.no (k6.below B5 (fun j hj => by rw [hj, hg2.out]; exact Nat.le_refl _))
        have q6' := Lib.hid q6
        clear q5 B5 k6 q6
        refine wpList_plain rfl (fun K hK => ?_)
        go_simp
        refine hK _ _ ?_
        clear hK K
        refine wpList_plain rfl (fun K hK => ?_)
        go_simp
        refine hK _ _ ?_
        clear hK K
        refine wpList_nil ?_
        go_wp2
        refine bodyPost_ret (v := .tuple #[.agg (zAU).toArray, .int .i64 ((cn : Nat) : Int), .int .i64 4]) (results_ctt (a := 2) (b := 3) (c := 4) (by kernel_rfl) rfl rfl rfl (loadVar_whole undAU infoAU q6'.out rfl)) rfl ?_
        exact fin.out
end Go.Proofs.YtjacphcnanopjaaDoor
