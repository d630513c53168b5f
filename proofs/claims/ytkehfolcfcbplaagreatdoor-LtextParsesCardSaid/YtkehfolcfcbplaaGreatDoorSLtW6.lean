/- A formula's text (the program's write), walked. Conditions: what the listed variables hold; a formula with names that may be. -/
import Derived.Test.YtkehfolcfcbplaaGreatDoorSLtW5
import Derived.IntWalk
namespace Go.Proofs.YtkehfolcfcbplaaGreatDoor
open Go.RowKit
set_option linter.unusedVariables false
set_option linter.unusedSimpArgs false
theorem goodN_mem (N : List (List UInt8)) : ∀ t : Fm, OkN N t → ∀ x ∈ t.post, x.1 = 3 → x.2 < N.length ∧ mayP N x.2.toNat = true
  | .leaf y, h, x, hx, e => by
    have : x = y := by simpa [Fm.post] using hx
    subst this
    exact h.2 e
  | .un y a, h, x, hx, e => by
    rw [Fm.post, List.mem_append] at hx
    rcases hx with hx | hx
    · exact goodN_mem N a ⟨h.1.2, h.2⟩ x hx e
    · have : x = y := by simpa using hx
      subst this
      have h1 := h.1.1
      rw [takes_prop e] at h1
      cases h1
  | .bin y a b, h, x, hx, e => by
    rw [Fm.post, List.mem_append, List.mem_append] at hx
    rcases hx with hx | hx | hx
    · exact goodN_mem N a ⟨h.1.2.1, h.2.1⟩ x hx e
    · exact goodN_mem N b ⟨h.1.2.2, h.2.2⟩ x hx e
    · have : x = y := by simpa using hx
      subst this
      have h1 := h.1.1
      rw [takes_prop e] at h1
      cases h1
theorem sizePc (w : World) : (sizeOf TPc).run Tryz.prog w = .ok 2 w := by kernel_rfl
theorem bl_size : ((⟨#[32]⟩ : ByteArray).size : Int) = 1 := rfl
theorem cat_size {a b : ByteArray} {m n k : Int} (h : (a.size : Int) ≤ m) (h2 : (b.size : Int) ≤ n) (hk : m + n ≤ k) : ((a ++ b : ByteArray).size : Int) ≤ k := by
  rw [ByteArray.size_append]; omega
theorem word_size (op : Int) : ((⟨(wordP op).toArray⟩ : ByteArray).size : Int) ≤ 5 := by
  rw [str_sz]; have := word_len op; omega
theorem brk_size {s : List UInt8} (l b : Nat) (h : s.length ≤ 480) : ((⟨(brk l s b).toArray⟩ : ByteArray).size : Int) ≤ 482 := by
  rw [str_sz]; have := brk_len l s b; omega
theorem bin_txt (nm : Int → List UInt8) (x : Nd) (u v : Fm) : (⟨(brk (leftP x.1) (txt nm u) (bindsP u.head.1)).toArray⟩ : ByteArray) ++ ⟨#[32]⟩ ++ ⟨(wordP x.1).toArray⟩ ++ ⟨#[32]⟩ ++ ⟨(brk (rightP x.1) (txt nm v) (bindsP v.head.1)).toArray⟩ = ⟨(txt nm (.bin x u v)).toArray⟩ := by
  rw [show (⟨#[32]⟩ : ByteArray) = ⟨[(32 : UInt8)].toArray⟩ from rfl, str_app, str_app, str_app, str_app, txt]
  simp
theorem un_txt (nm : Int → List UInt8) (x : Nd) (u : Fm) (h : x.1 ≠ 4) : (⟨(wordP x.1).toArray⟩ : ByteArray) ++ ⟨#[32]⟩ ++ ⟨(brk 5 (txt nm u) (bindsP u.head.1)).toArray⟩ = ⟨(txt nm (.un x u)).toArray⟩ := by
  rw [show (⟨#[32]⟩ : ByteArray) = ⟨[(32 : UInt8)].toArray⟩ from rfl, str_app, str_app, txt, if_neg h]
  simp
theorem not_txt (nm : Int → List UInt8) (x : Nd) (u : Fm) (h : x.1 = 4) : (⟨(wordP x.1).toArray⟩ : ByteArray) ++ ⟨(brk 5 (txt nm u) (bindsP u.head.1)).toArray⟩ = ⟨(txt nm (.un x u)).toArray⟩ := by
  rw [str_app, txt, if_pos h]
  simp
theorem how_one {wd : ByteArray} {b l r : Int} : ∀ v ∈ ([.string wd, .int .i64 b, .int .i64 l, .int .i64 r] : List Value), v.oneCell' = true := by
  intro v hv
  simp only [List.mem_cons, List.not_mem_nil, or_false] at hv
  rcases hv with rfl | rfl | rfl | rfl <;> rfl
theorem pc_one {wd : ByteArray} {b : Int} : ∀ v ∈ ([.string wd, .int .i64 b] : List Value), v.oneCell' = true := by
  intro v hv
  simp only [List.mem_cons, List.not_mem_nil, or_false] at hv
  rcases hv with rfl | rfl <;> rfl
theorem right_one {op : Int} (h : takesP op = 1) : rightP op = 5 := by
  unfold takesP at h
  split at h
  · cases h
  · split at h
    · rename_i h1
      rcases h1 with rfl | rfl | rfl | rfl <;> rfl
    · split at h <;> cases h
set_option maxRecDepth 20000 in
set_option maxHeartbeats 16000000 in
theorem write_any (w : World) (hd : Door w) (a : Option Addr) (c : Nat) (f : List Nd) (hf : NdAt w a f) (na : Option Addr) (nc : Nat) (N : List (List UInt8)) (hN : StrsAt w na N) (hNl : N.length ≤ 1000) (t0 : Fm) (ht : OkN N t0) (hp : t0.post = f) (hl : f.length ≤ 24) :
    Calls Tryz.prog 13 #[.slice a f.length c, .slice na N.length nc] w fun e w' => e = .returned (.string ⟨(txt (nmP N) t0).toArray⟩) ∧ Below w.heap.size w w' := by
  obtain ⟨nm, hnm⟩ : ∃ nm, nm = nmP N := ⟨_, rfl⟩
  obtain ⟨res, hres⟩ : ∃ res : ByteArray, res = ⟨(txt nm t0).toArray⟩ := ⟨_, rfl⟩
  rw [← hnm, ← hres]
  have HN : Hid (∀ i (hi : i < f.length), f[i].1 = 3 → f[i].2 < N.length ∧ mayP N f[i].2.toNat = true) := fun i hi e => goodN_mem N t0 ht f[i] (by rw [hp]; exact List.getElem_mem hi) e
  have S0 : Hid (StkI N f t0 0 []) := by
    have h1 := wrong_post t0 ht.1 [] 0 (Int.le_refl _)
    rw [List.append_nil, hp] at h1
    exact ⟨fun t h => (by cases h), by rw [List.drop_zero]; exact h1, by rw [List.drop_zero, ← hp]; exact stack_one ht.1, rfl⟩
  have O0 : Hid (OwnR w w.heap.size TPc 2 none 0 0 (pcs nm [])) := OwnR.nil _ _ _ _
  have B0 : Hid (Below w.heap.size w w) := Below.refl _ _
  have DR : Hid (∀ v, Below w.heap.size w v → Door v) := fun v hb => hd.below hb
  have ND : Hid (∀ v, Below w.heap.size w v → NdAt v a f) := fun v hb => hf.below hb
  have NS : Hid (∀ v, Below w.heap.size w v → StrsAt v na N) := fun v hb => hN.below hb
  have SH : Hid (∀ i S, StkI N f t0 i S → ∀ t ∈ S, (txt nm t).length ≤ 480) := fun i S h t ht => by rw [hnm]; exact h.short hl ht
  have NMX : Hid (∀ (y : Int) (h0 : 0 ≤ y) (h : y < N.length), nm y = N[y.toNat]'(by omega)) := fun y h0 h => by
    rw [hnm]
    show N.getD y.toNat [] = _
    rw [List.getD, List.getElem?_eq_getElem (by omega)]
    rfl
  obtain ⟨n, hn⟩ : ∃ n, n = f.length := ⟨_, rfl⟩
  obtain ⟨nn, hnn⟩ : ∃ nn, nn = N.length := ⟨_, rfl⟩
  have hfpos : 0 < n := by rw [hn, ← hp]; exact t0.post_pos
  rw [← hn, ← hnn]
  have hnI : (n : Int) ≤ 24 := by omega
  have hnnI : (nn : Int) ≤ 1000 := by omega
  have AT := Lib.hid (fun v (s : List UInt8) (b l : Nat) h => at_any v s b l h)
  have hb32 := bl_size
  replace hn := Lib.hid hn
  replace hnn := Lib.hid hnn
  replace hres := Lib.hid hres
  replace hnm := Lib.hid hnm
  clear hp ht hl hNl hN hf hd
  go_enter Tryz.func13, Tryz.ntmps13
  go_wp2
  go_loopw [5, 13] (fun sv iv wr => ∃ (i : Nat) (S : List Fm) (sa : Option Addr) (m sc : Nat), sv = .slice sa m sc ∧ iv = .int .i64 (i : Int) ∧ i ≤ n ∧ m ≤ i ∧ Hid (m = S.length) ∧ Hid (StkI N f t0 i S) ∧ Hid (OwnR wr w.heap.size TPc 2 sa m sc (pcs nm S)) ∧ Hid (Below w.heap.size w wr)) (fun _ iv _ => n - (intOf iv).toNat)
  case atStart => exact ⟨0, [], none, 0, 0, rfl, rfl, Nat.zero_le _, Nat.le_refl _, rfl, S0, O0, B0⟩
  case round =>
    obtain ⟨i, S, sa, m, sc, rfl, rfl, hi, hmi, hm, st, own, zr⟩ := hrel
    clear S0 O0 B0
    by_cases hlt : i < n
    · have hlI : (i : Int) < (n : Int) := by omega
      have hif : i < f.length := by have := hn.out; omega
      obtain ⟨b, off, ea, hc⟩ := (ND.out wr zr.out) (by omega)
      have SGN := NdAt.range (hc i hif)
      subst ea
      have HX := HN.out i hif
      have CS := st.out.step hif HX
      have SH0 := SH.out i S st.out
      obtain ⟨xy, hxy⟩ : ∃ xy, xy = f[i] := ⟨_, rfl⟩
      rw [← hxy] at SGN HX CS
      clear hxy
      obtain ⟨x, y⟩ := xy
      dsimp only at SGN HX CS
      have htk : 0 ≤ takesP x := by rcases CS with h | h | h <;> (have := h.1; omega)
      obtain ⟨k, hxk, hk13, hway⟩ := way_at htk
      subst hxk
      have WY := Lib.hid (fun v hb => (DR.out v hb).way hk13 hway)
      have hkI : (k : Int) < 13 := by omega
      have hmI : (m : Int) ≤ 24 := by omega
      replace SGN := Lib.hid SGN
      replace HX := Lib.hid HX
      replace CS := Lib.hid CS
      replace SH0 := Lib.hid SH0
      clear hc hif htk hway hk13
      go_upto_region 4 with (fail)
      refine wp_region_list ?_
      refine wpList_plain rfl (fun K hK => ?_)
      go_simp
      refine hK _ _ ?_
      clear hK K
      refine wpList_load_mid rfl TNd (.tmp 15) rfl b (off + i * 2) rfl [.int .i64 (k : Int), .int .i64 y] _ SGN.out undNd.choose_spec.1 undNd.choose_spec.2 (by kernel_rfl) ?_
      refine wpList_plain rfl (fun K hK => ?_)
      go_simp
      refine hK _ _ ?_
      clear hK K
      obtain ⟨wa, hwa⟩ : ∃ wa, wa = wr.alloc (.cells #[.int .i64 0, .int .i64 0] TNd) := ⟨_, rfl⟩
      obtain ⟨gN, hgN⟩ : ∃ gN, gN = wr.heap.size := ⟨_, rfl⟩
      have ra : RowAt wa gN TNd [.int .i64 0, .int .i64 0] := by rw [hwa]; exact RowAt.new #[.int .i64 0, .int .i64 0] hgN
      have ba : Below wr.heap.size wr wa := by rw [hwa]; exact balloc (Below.refl _ _) _
      rw [← hwa, ← hgN]
      replace hwa := Lib.hid hwa
      replace hgN := Lib.hid hgN
      refine list_store (l := [.int .i64 (k : Int), .int .i64 y]) infoNd ra rfl rfl nd_one rfl 7 16 rfl rfl rfl ?_
      intro wb qb kb
      refine wpList_nil ?_
      have bb : Below wr.heap.size wr wb := kb.below ba (fun j hj => by cases hj; rw [hgN.out]; exact Nat.le_refl _)
      replace qb := Lib.hid qb
      replace bb := Lib.hid bb
      clear kb ba ra SGN
      have c0 : wb.cell? ⟨gN, 0, none⟩ = some (.int .i64 (k : Int)) := qb.out.cell 0
      have c1 : wb.cell? ⟨gN, 1, none⟩ = some (.int .i64 y) := qb.out.cell 1
      have zb := Lib.hid (btrans zr.out bb.out)
      have ownb : Hid (OwnR wb w.heap.size TPc 2 sa m sc (pcs nm S)) := OwnR.keeps (S := fun _ => False) own.out (Keeps.of_below bb.out) (fun _ _ h => h)
      clear bb own zr
      have RW := Lib.hid (WY.out wb zb.out)
      obtain ⟨wd, hwd⟩ : ∃ wd : ByteArray, wd = ⟨(wordP (k : Int)).toArray⟩ := ⟨_, rfl⟩
      obtain ⟨bi, hbi⟩ : ∃ bi : Int, bi = (bindsP (k : Int) : Int) := ⟨_, rfl⟩
      obtain ⟨le, hle⟩ : ∃ le : Int, le = (if takesP (k : Int) = 2 then (leftP (k : Int) : Int) else 0) := ⟨_, rfl⟩
      obtain ⟨ri, hri⟩ : ∃ ri : Int, ri = (if takesP (k : Int) = 0 then 0 else (rightP (k : Int) : Int)) := ⟨_, rfl⟩
      have hrow : wayV (wordP (k : Int), (bindsP (k : Int) : Int), (if takesP (k : Int) = 2 then (leftP (k : Int) : Int) else 0), (if takesP (k : Int) = 0 then 0 else (rightP (k : Int) : Int))) = [.string wd, .int .i64 bi, .int .i64 le, .int .i64 ri] := by rw [hwd, hbi, hle, hri]; rfl
      rw [hrow] at RW
      have hwds : (wd.size : Int) ≤ 5 := by rw [hwd]; exact word_size _
      replace hwd := Lib.hid hwd
      replace hbi := Lib.hid hbi
      replace hle := Lib.hid hle
      replace hri := Lib.hid hri
      clear hrow WY
      go_upto_region 5 with (fail)
      refine wp_region_list ?_
      refine wpList_plain rfl (fun K hK => ?_)
      go_simp
      refine hK _ _ ?_
      clear hK K
      refine wpList_plain rfl (fun K hK => ?_)
      go_simp
      refine hK _ _ ?_
      clear hK K
      refine wpList_plain rfl (fun K hK => ?_)
      go_simp
      refine hK _ _ ?_
      clear hK K
      refine wpList_load_mid rfl THow (.tmp 19) rfl 0 (k * 4) rfl [.string wd, .int .i64 bi, .int .i64 le, .int .i64 ri] _ RW.out undHow.choose_spec.1 undHow.choose_spec.2 (by kernel_rfl) ?_
      refine wpList_plain rfl (fun K hK => ?_)
      go_simp
      refine hK _ _ ?_
      clear hK K
      refine wpList_plain rfl (fun K hK => ?_)
      go_simp
      refine hK _ _ ?_
      clear hK K
      refine wpList_plain rfl (fun K hK => ?_)
      go_simp
      refine hK _ _ ?_
      clear hK K
      obtain ⟨wc, hwc⟩ : ∃ wc, wc = wb.alloc (.cells #[.string ⟨#[]⟩, .int .i64 0, .int .i64 0, .int .i64 0] THow) := ⟨_, rfl⟩
      obtain ⟨gW, hgW⟩ : ∃ gW, gW = wb.heap.size := ⟨_, rfl⟩
      have rc : RowAt wc gW THow [.string ⟨#[]⟩, .int .i64 0, .int .i64 0, .int .i64 0] := by rw [hwc]; exact RowAt.new #[.string ⟨#[]⟩, .int .i64 0, .int .i64 0, .int .i64 0] hgW
      have bc : Below wb.heap.size wb wc := by rw [hwc]; exact balloc (Below.refl _ _) _
      rw [← hwc, ← hgW]
      replace hwc := Lib.hid hwc
      replace hgW := Lib.hid hgW
      refine list_store (l := [.string wd, .int .i64 bi, .int .i64 le, .int .i64 ri]) infoHow rc rfl rfl how_one rfl 8 20 rfl rfl rfl ?_
      intro wd1 qd kd
      refine wpList_plain rfl (fun K hK => ?_)
      go_simp
      refine hK _ _ ?_
      clear hK K
      refine wpList_nil ?_
      have bd : Below wb.heap.size wb wd1 := kd.below bc (fun j hj => by cases hj; rw [hgW.out]; exact Nat.le_refl _)
      have zd := Lib.hid (btrans zb.out bd)
      have ownd : Hid (OwnR wd1 w.heap.size TPc 2 sa m sc (pcs nm S)) := OwnR.keeps (S := fun _ => False) ownb.out (Keeps.of_below bd) (fun _ _ h => h)
      have qNd := Lib.hid (qb.out.below bd)
      replace qd := Lib.hid qd
      clear kd rc bc bd zb ownb qb RW c0 c1
      have c0 : wd1.cell? ⟨gN, 0, none⟩ = some (.int .i64 (k : Int)) := qNd.out.cell 0
      have c1 : wd1.cell? ⟨gN, 1, none⟩ = some (.int .i64 y) := qNd.out.cell 1
      have d0 : wd1.cell? ⟨gW, 0, none⟩ = some (.string wd) := qd.out.cell 0
      have d1 : wd1.cell? ⟨gW, 1, none⟩ = some (.int .i64 bi) := qd.out.cell 1
      go_upto_region 6 with (fail)
      refine wp_region_list ?_
      refine wpList_plain rfl (fun K hK => ?_)
      go_simp
      refine hK _ _ ?_
      clear hK K
      refine wpList_plain rfl (fun K hK => ?_)
      go_simp
      refine hK _ _ ?_
      clear hK K
      refine wpList_plain rfl (fun K hK => ?_)
      go_simp
      refine hK _ _ ?_
      clear hK K
      refine wpList_plain rfl (fun K hK => ?_)
      go_simp
      refine hK _ _ ?_
      clear hK K
      refine wpList_plain rfl (fun K hK => ?_)
      go_simp
      refine hK _ _ ?_
      clear hK K
      refine wpList_plain rfl (fun K hK => ?_)
      go_simp
      refine hK _ _ ?_
      clear hK K
      obtain ⟨we, hwe⟩ : ∃ we, we = wd1.alloc (.cells #[.string ⟨#[]⟩, .int .i64 0] TPc) := ⟨_, rfl⟩
      obtain ⟨gP, hgP⟩ : ∃ gP, gP = wd1.heap.size := ⟨_, rfl⟩
      have re : RowAt we gP TPc [.string ⟨#[]⟩, .int .i64 0] := by rw [hwe]; exact RowAt.new #[.string ⟨#[]⟩, .int .i64 0] hgP
      have be : Below wd1.heap.size wd1 we := by rw [hwe]; exact balloc (Below.refl _ _) _
      rw [← hwe, ← hgP]
      replace hwe := Lib.hid hwe
      replace hgP := Lib.hid hgP
      refine list_store (l := [.string wd, .int .i64 bi]) infoPc re rfl rfl pc_one rfl 10 27 rfl rfl rfl ?_
      intro wf qf kf
      refine wpList_nil ?_
      have bf : Below wd1.heap.size wd1 wf := kf.below be (fun j hj => by cases hj; rw [hgP.out]; exact Nat.le_refl _)
      have zf := Lib.hid (btrans zd.out bf)
      have ownf : Hid (OwnR wf w.heap.size TPc 2 sa m sc (pcs nm S)) := OwnR.keeps (S := fun _ => False) ownd.out (Keeps.of_below bf) (fun _ _ h => h)
      have qNf := Lib.hid (qNd.out.below bf)
      have qWf := Lib.hid (qd.out.below bf)
      have hneP : Hid (∀ j, (Value.slice sa m sc).ownBlock = some j → ¬ j = gP) := fun j hj e => by
        have h1 := (OwnR.lt ownd.out hj).2
        have h2 := hgP.out
        omega
      have hneW : Hid (gW ≠ gP) := fun e => by
        have h1 := qd.out.lt
        have h2 := hgP.out
        omega
      have hneN : Hid (gN ≠ gP) := fun e => by
        have h1 := qNd.out.lt
        have h2 := hgP.out
        omega
      have hgPb : Hid (w.heap.size ≤ gP) := by show _ ≤ _; have h1 := zd.out.size; have h2 := hgP.out; omega
      replace qf := Lib.hid qf
      clear kf re be bf zd ownd qNd qd c0 c1 d0 d1
      have c0 : wf.cell? ⟨gN, 0, none⟩ = some (.int .i64 (k : Int)) := qNf.out.cell 0
      have c1 : wf.cell? ⟨gN, 1, none⟩ = some (.int .i64 y) := qNf.out.cell 1
      have d0 : wf.cell? ⟨gW, 0, none⟩ = some (.string wd) := qWf.out.cell 0
      have d2 : wf.cell? ⟨gW, 2, none⟩ = some (.int .i64 le) := qWf.out.cell 2
      have d3 : wf.cell? ⟨gW, 3, none⟩ = some (.int .i64 ri) := qWf.out.cell 3
      have p0 : wf.cell? ⟨gP, 0, none⟩ = some (.string wd) := qf.out.cell 0
      have pf := qf.out.free 0
      rcases CS.out with ⟨h0, h3, st2⟩ | ⟨h1, u, S1, hS, st2⟩ | ⟨h2, u, v0, S1, hS, st2⟩
      · replace st2 := Lib.hid st2
        clear CS SH0 AT
        by_cases hk3 : (k : Int) = 3
        · have hkB : ((k : Int) == 3) = true := by rw [hk3]; rfl
          have hkN : (k == 3) = true := by have : k = 3 := by omega
                                           rw [this]; rfl
          obtain ⟨hy1, _⟩ := HX.out hk3
          have hy0 := h3 hk3
          have hyI : y < (nn : Int) := by have := hnn.out; omega
          have hnmy := NMX.out y hy0 hy1
          obtain ⟨nb, noff, ena, hnc⟩ := (NS.out wf zf.out) (by omega)
          have ny := hnc y.toNat (by omega)
          subst ena
          obtain ⟨p, hp⟩ : ∃ p : ByteArray, p = ⟨(nm y).toArray⟩ := ⟨_, rfl⟩
          rw [← hnmy, ← hp] at ny
          have hP : Hid (([.string p, .int .i64 bi] : List Value) = pcV nm (.leaf ((k : Int), y))) := by
            show _ = _
            unfold pcV
            rw [hp, hbi.out, txt, if_pos hk3]
            rfl
          clear hp hnmy hnc h3 HX hk3
          go_upto_region 8 with (fail)
          refine wp_region_list ?_
          refine wpList_plain rfl (fun K hK => ?_)
          go_simp
          refine hK _ _ ?_
          clear hK K
          refine wpList_plain rfl (fun K hK => ?_)
          go_simp
          refine hK _ _ ?_
          clear hK K
          refine wpList_plain rfl (fun K hK => ?_)
          go_simp
          refine hK _ _ ?_
          clear hK K
          refine wpList_plain rfl (fun K hK => ?_)
          go_simp
          refine hK _ _ ?_
          clear hK K
          refine wpList_plain rfl (fun K hK => ?_)
          go_simp
          refine hK _ _ ?_
          clear hK K
          refine wpList_plain rfl (fun K hK => ?_)
          go_simp
          refine hK _ _ ?_
          clear hK K
          refine wpList_plain rfl (fun K hK => ?_)
          go_simp
          refine hK _ _ ?_
          clear hK K
          refine wpList_nil ?_
          clear p0 pf ny
          have qNX := qNf
          have qWX := qWf
          have q6 := Lib.hid (show RowAt (wf.setCell ⟨gP, 0, none⟩ (.string (p))) gP TPc [.string (p), .int .i64 bi] from qf.out.set 0 (.string (p)))
          have k6 : Keeps wf (wf.setCell ⟨gP, 0, none⟩ (.string (p))) (fun j => j = gP) := Keeps.set _ _ _ _ rfl
          have z6 := Lib.hid (k6.below zf.out (fun j hj => by cases hj; exact hgPb.out))
          have own6 : Hid (OwnR (wf.setCell ⟨gP, 0, none⟩ (.string (p))) w.heap.size TPc 2 sa m sc (pcs nm S)) := OwnR.keeps ownf.out k6 (fun j hj e => hneP.out j hj e)
          have qN6 := Lib.hid (qNX.out.keeps k6 hneN.out)
          have qW6 := Lib.hid (qWX.out.keeps k6 hneW.out)
          generalize wf.setCell ⟨gP, 0, none⟩ (.string (p)) = w6 at q6 z6 own6 qN6 qW6 ⊢
          clear k6 qf zf ownf
          clear c0 c1 d0 d2 d3
          have hm1 := hm
          go_upto_region 17 with (fail)
          refine wp_region_list ?_
          refine wpList_plain rfl (fun K hK => ?_)
          go_simp
          refine hK _ _ ?_
          clear hK K
          refine list_load undPc infoPc q6.out rfl rfl 10 rfl rfl ?_
          rw [show ([.string p, .int .i64 bi] : List Value).toArray = #[.string p, .int .i64 bi] from rfl]
          refine wpList_plain rfl (fun K hK => ?_)
          go_simp
          refine hK _ _ ?_
          clear hK K
          obtain ⟨w7, hw7⟩ : ∃ w7, w7 = w6.alloc (.cells #[.string p, .int .i64 bi] TPc) := ⟨_, rfl⟩
          obtain ⟨g7, hg7⟩ : ∃ g7, g7 = w6.heap.size := ⟨_, rfl⟩
          have r7 : RowAt w7 g7 TPc [.string p, .int .i64 bi] := by rw [hw7]; exact RowAt.new #[.string p, .int .i64 bi] hg7
          have b67 : Below w6.heap.size w6 w7 := by rw [hw7]; exact balloc (Below.refl _ _) _
          rw [← hw7, ← hg7]
          have own7 : OwnR w7 w.heap.size TPc 2 sa m sc (pcs nm S) := OwnR.keeps (S := fun _ => False) own6.out (Keeps.of_below b67) (fun _ _ h => h)
          have z7 := Lib.hid (btrans z6.out b67)
          replace hw7 := Lib.hid hw7
          replace hg7 := Lib.hid hg7
          refine wp_appR rfl (.tmp 105) (.tmp 107) 67 TPc (.agg #[.string ⟨#[]⟩, .int .i64 0]) 2 24 rfl Tryz.underlying67 infoPc3 rfl (by decide) w.heap.size sa m sc (pcs nm S) rfl own7 g7 1 [.string p, .int .i64 bi] rfl rfl (fun j u hj => by
            have := r7.cell j
            rw [hj] at this
            rw [add_off, Nat.zero_add]
            exact this) pc_one (by unfold maxLen; omega) (by omega) z7.out.size ?_
          intro sa8 sc8 w8 own8 hg8 _
          have z8 := Lib.hid (bgrown z7.out hg8 (fun j hj => (OwnR.lt own7 hj).1))
          have own9 : Hid (OwnR w8 w.heap.size TPc 2 sa8 (m + 1) sc8 (pcs nm ((Fm.leaf ((k : Int), y)) :: S))) := by
            show OwnR _ _ _ _ _ _ _ _
            rw [pcs_cons, ← hP.out]
            exact own8
          clear own8 hg8 own7 r7 b67 z7 own6 q6 z6
          refine wpList_plain rfl (fun K hK => ?_)
          go_simp
          refine hK _ _ ?_
          clear hK K
          refine wpList_nil ?_
          have hm9 : Hid (m + 1 = ((Fm.leaf ((k : Int), y)) :: S).length) := by show _ = _; rw [List.length_cons, hm1.out]
          have st9 := Lib.hid (st2.out)
          generalize ((Fm.leaf ((k : Int), y)) :: S) = S9 at own9 hm9 st9
          go_wp2
          go_roundw
          case rel => exact ⟨i + 1, S9, sa8, m + 1, sc8, rfl, by go_num, by omega, by omega, hm9, st9, own9, z8⟩
          case measure => simp [intOf]; omega
        · have hkB : ((k : Int) == 3) = false := by rw [beq_eq_false_iff_ne]; exact hk3
          have hkN : (k == 3) = false := by rw [beq_eq_false_iff_ne]; omega
          have hle0 : le = 0 := by rw [hle.out, if_neg (by omega)]
          have hri0 : ri = 0 := by rw [hri.out, if_pos h0]
          subst hle0
          subst hri0
          have hP : Hid (([.string wd, .int .i64 bi] : List Value) = pcV nm (.leaf ((k : Int), y))) := by
            show _ = _
            unfold pcV
            rw [hwd.out, hbi.out, txt, if_neg hk3]
            rfl
          have hm1 := hm
          clear hk3 h3 HX
          go_upto_region 17 with (fail)
          refine wp_region_list ?_
          refine wpList_plain rfl (fun K hK => ?_)
          go_simp
          refine hK _ _ ?_
          clear hK K
          refine list_load undPc infoPc qf.out rfl rfl 10 rfl rfl ?_
          rw [show ([.string wd, .int .i64 bi] : List Value).toArray = #[.string wd, .int .i64 bi] from rfl]
          refine wpList_plain rfl (fun K hK => ?_)
          go_simp
          refine hK _ _ ?_
          clear hK K
          obtain ⟨w7, hw7⟩ : ∃ w7, w7 = wf.alloc (.cells #[.string wd, .int .i64 bi] TPc) := ⟨_, rfl⟩
          obtain ⟨g7, hg7⟩ : ∃ g7, g7 = wf.heap.size := ⟨_, rfl⟩
          have r7 : RowAt w7 g7 TPc [.string wd, .int .i64 bi] := by rw [hw7]; exact RowAt.new #[.string wd, .int .i64 bi] hg7
          have b67 : Below wf.heap.size wf w7 := by rw [hw7]; exact balloc (Below.refl _ _) _
          rw [← hw7, ← hg7]
          have own7 : OwnR w7 w.heap.size TPc 2 sa m sc (pcs nm S) := OwnR.keeps (S := fun _ => False) ownf.out (Keeps.of_below b67) (fun _ _ h => h)
          have z7 := Lib.hid (btrans zf.out b67)
          replace hw7 := Lib.hid hw7
          replace hg7 := Lib.hid hg7
          refine wp_appR rfl (.tmp 105) (.tmp 107) 67 TPc (.agg #[.string ⟨#[]⟩, .int .i64 0]) 2 24 rfl Tryz.underlying67 infoPc3 rfl (by decide) w.heap.size sa m sc (pcs nm S) rfl own7 g7 1 [.string wd, .int .i64 bi] rfl rfl (fun j u hj => by
            have := r7.cell j
            rw [hj] at this
            rw [add_off, Nat.zero_add]
            exact this) pc_one (by unfold maxLen; omega) (by omega) z7.out.size ?_
          intro sa8 sc8 w8 own8 hg8 _
          have z8 := Lib.hid (bgrown z7.out hg8 (fun j hj => (OwnR.lt own7 hj).1))
          have own9 : Hid (OwnR w8 w.heap.size TPc 2 sa8 (m + 1) sc8 (pcs nm ((Fm.leaf ((k : Int), y)) :: S))) := by
            show OwnR _ _ _ _ _ _ _ _
            rw [pcs_cons, ← hP.out]
            exact own8
          clear own8 hg8 own7 r7 b67 z7 ownf qf zf
          refine wpList_plain rfl (fun K hK => ?_)
          go_simp
          refine hK _ _ ?_
          clear hK K
          refine wpList_nil ?_
          have hm9 : Hid (m + 1 = ((Fm.leaf ((k : Int), y)) :: S).length) := by show _ = _; rw [List.length_cons, hm1.out]
          have st9 := Lib.hid (st2.out)
          generalize ((Fm.leaf ((k : Int), y)) :: S) = S9 at own9 hm9 st9
          go_wp2
          go_roundw
          case rel => exact ⟨i + 1, S9, sa8, m + 1, sc8, rfl, by go_num, by omega, by omega, hm9, st9, own9, z8⟩
          case measure => simp [intOf]; omega
      · replace st2 := Lib.hid st2
        clear CS HX NMX NS
        have hkB : ((k : Int) == 3) = false := by rw [beq_eq_false_iff_ne]; intro e; rw [takes_prop e] at h1; cases h1
        have hkN : (k == 3) = false := by rw [beq_eq_false_iff_ne]; intro e; rw [takes_prop (op := (k : Int)) (by omega)] at h1; cases h1
        have hle0 : le = 0 := by rw [hle.out, if_neg (by omega)]
        have hri0 : ri = 5 := by rw [hri.out, if_neg (by omega), right_one h1]; rfl
        subst hle0
        subst hri0
        subst hS
        obtain ⟨m1, hm1⟩ : ∃ m1, m1 = S1.length := ⟨_, rfl⟩
        have hm2 : m = m1 + 1 := by have := hm.out; simp only [List.length_cons] at this; omega
        obtain ⟨sb, esa, _, hsb⟩ := OwnR.addr ownf.out (by omega)
        subst esa
        have RU0 : Hid (∀ v, OwnR v w.heap.size TPc 2 (some ⟨sb, 0, none⟩) m sc (pcs nm (u :: S1)) → v.rangeAt sb (m1 * 2) (pcV nm u)) := fun v hv => by
          rw [hm1]
          exact pcs_top hv (by rw [← hm1]; exact hm2)
        have RU : Hid (∀ v, Below wf.heap.size wf v → v.rangeAt sb (m1 * 2) (pcV nm u)) := fun v hb => RU0.out v (OwnR.keeps (S := fun _ => False) ownf.out (Keeps.of_below hb) (fun _ _ h => h))
        have A1 := Lib.hid (fun v => AT.out v (txt nm u) (bindsP u.head.1) 5 (by have := SH0.out u (List.mem_cons_self ..); omega))
        have hsu := brk_size (s := txt nm u) 5 (bindsP u.head.1) (SH0.out u (List.mem_cons_self ..))
        have htx := un_txt nm ((k : Int), y) u
        have htx4 := not_txt nm ((k : Int), y) u
        dsimp only at htx htx4
        rw [← hwd.out] at htx htx4
        obtain ⟨lu, hlu⟩ : ∃ lu : ByteArray, lu = ⟨(brk 5 (txt nm u) (bindsP u.head.1)).toArray⟩ := ⟨_, rfl⟩
        rw [← hlu] at A1 hsu htx htx4
        have hP5 : Hid ((k : Int) ≠ 4 → ([.string (wd ++ (⟨#[32]⟩ : ByteArray) ++ lu), .int .i64 bi] : List Value) = pcV nm (.un ((k : Int), y) u)) := fun h => by
          unfold pcV
          rw [htx h, hbi.out]
          rfl
        have hP4 : Hid ((k : Int) = 4 → ([.string (wd ++ lu), .int .i64 bi] : List Value) = pcV nm (.un ((k : Int), y) u)) := fun h => by
          unfold pcV
          rw [htx4 h, hbi.out]
          rfl
        unfold pcV at RU RU0
        obtain ⟨su, hsu2⟩ : ∃ su : ByteArray, su = ⟨(txt nm u).toArray⟩ := ⟨_, rfl⟩
        rw [← hsu2] at RU A1 RU0
        generalize bindsP u.head.1 = bu at RU A1 RU0
        have z1s : ((wd ++ (⟨#[32]⟩ : ByteArray) : ByteArray).size : Int) ≤ 6 := cat_size hwds (Int.le_of_eq bl_size) (by decide)
        have wr2 : IntKind.i64.wrap ((m : Int) - 1) = (m : Int) - 1 := IntWalk.i64_in _ (by omega)
        have tn2 : ((m : Int) - 1).toNat = m1 := by omega
        have ge2 : (0 : Int) ≤ (m : Int) - 1 := by omega
        have gf2 : (1 : Int) ≤ (m : Int) := by omega
        have lt2 : (m : Int) - 1 < (m : Int) := by omega
        have RH := fun v => run_cut_h (P := Tryz.prog) (kh := .i64) (H := (m : Int) - 1) Tryz.underlying67 sizePc (some ⟨sb, 0, none⟩) m sc m1 (by omega) (by have := (OwnR.caps ownf.out).1; omega) v
        have hm1I : (m1 : Int) ≤ 24 := by omega
        have hmm : m1 + 1 ≤ i := by omega
        clear htx htx4 hlu hsu2
        replace hm1 := Lib.hid hm1
        replace hm2 := Lib.hid hm2
        replace RH := Lib.hid RH
        go_upto_region 13 with (fail)
        refine wp_region_kp (by kernel_rfl) 13 [.fix (.pointer (some ⟨gW, 0, none⟩)), .fix (.string wd), .fix (.string (wd ++ (⟨#[32]⟩ : ByteArray))), .fix (.slice (some ⟨sb, 0, none⟩) m sc), .fix (.int .i64 (m : Int)), .fix (.int .i64 ((m : Int) - 1)), .fix (.pointer (some ⟨sb, m1 * 2, none⟩)), .fix (.agg #[.string su, .int .i64 (bu : Int)]), .fix (.pointer (some ⟨gW, 3, none⟩)), .fix (.int .i64 5), .fix (.string lu), .fix (.string (wd ++ (⟨#[32]⟩ : ByteArray) ++ lu)), .fix (.pointer (some ⟨gP, 0, none⟩))] (by kernel_rfl) (by kernel_rfl) (by kernel_rfl) ?_ ?_
        · intro i hi
          match i, hi with
          | 0, _ =>
            intro o ho ac w' hR hF hD K hK
            simp only [zqA, zqZ, zqI] at ho
            subst ho
            have e8 : ac.tmps.getD 8 undef = .pointer (some ⟨gW, 0, none⟩) := hF 8 (znd (by kernel_rfl))
            have d8 := zgD e8
            clear hD hF
            go_simp
            exact hK _ _ (Below.refl _ _) rfl
          | 1, _ =>
            intro o ho ac w' hR hF hD K hK
            simp only [zqA, zqZ, zqS, zqI] at ho
            subst ho
            have e73 : ac.tmps.getD 73 undef = .pointer (some ⟨gW, 0, none⟩) := hD 0 (zdp (by kernel_rfl)) 73 rfl
            have d73 := zgD e73
            clear hD hF
            have q0 : w'.cell? ⟨gW, 0, none⟩ = some (.string wd) := bcell hR d0
            go_simp
            exact hK _ _ (Below.refl _ _) rfl
          | 2, _ =>
            intro o ho ac w' hR hF hD K hK
            simp only [zqA, zqZ, zqS, zqI] at ho
            subst ho
            have e74 : ac.tmps.getD 74 undef = .string wd := hD 1 (zdp (by kernel_rfl)) 74 rfl
            have d74 := zgD e74
            clear hD hF
            go_simp
            rw [if_neg (by omega)]
            exact hK _ _ (Below.refl _ _) rfl
          | 3, _ =>
            intro o ho ac w' hR hF hD K hK
            simp only [zqA, zqZ, zqS, zqI] at ho
            subst ho
            have e5 : ac.tmps.getD 5 undef = .slice (some ⟨sb, 0, none⟩) m sc := hF 5 (znd (by kernel_rfl))
            have d5 := zgD e5
            clear hD hF
            go_simp
            exact hK _ _ (Below.refl _ _) rfl
          | 4, _ =>
            intro o ho ac w' hR hF hD K hK
            simp only [zqA, zqZ, zqS, zqI] at ho
            subst ho
            have e9 : ac.tmps.getD 9 undef = .int .i64 (m : Int) := hF 9 (znd (by kernel_rfl))
            have d9 := zgD e9
            clear hD hF
            go_simp
            exact hK _ _ (Below.refl _ _) rfl
          | 5, _ =>
            intro o ho ac w' hR hF hD K hK
            simp only [zqA, zqZ, zqS, zqI] at ho
            subst ho
            have e77 : ac.tmps.getD 77 undef = .int .i64 (m : Int) := hD 4 (zdp (by kernel_rfl)) 77 rfl
            have d77 := zgD e77
            clear hD hF
            go_simp
            exact hK _ _ (Below.refl _ _) rfl
          | 6, _ =>
            intro o ho ac w' hR hF hD K hK
            simp only [zqA, zqZ, zqS, zqI] at ho
            subst ho
            have e76 : ac.tmps.getD 76 undef = .slice (some ⟨sb, 0, none⟩) m sc := hD 3 (zdp (by kernel_rfl)) 76 rfl
            have d76 := zgD e76
            have e78 : ac.tmps.getD 78 undef = .int .i64 ((m : Int) - 1) := hD 5 (zdp (by kernel_rfl)) 78 rfl
            have d78 := zgD e78
            clear hD hF
            go_simp
            exact hK _ _ (Below.refl _ _) rfl
          | 7, _ =>
            intro o ho ac w' hR hF hD K hK
            simp only [zqA, zqZ, zqS, zqI] at ho
            subst ho
            have e79 : ac.tmps.getD 79 undef = .pointer (some ⟨sb, m1 * 2, none⟩) := hD 6 (zdp (by kernel_rfl)) 79 rfl
            have d79 := zgD e79
            clear hD hF
            exact step_loadM undPc (RU.out w' hR) rfl rfl 79 rfl e79 (hK _ _ (Below.refl _ _) rfl)
          | 8, _ =>
            intro o ho ac w' hR hF hD K hK
            simp only [zqA, zqZ, zqS, zqI] at ho
            subst ho
            have e8 : ac.tmps.getD 8 undef = .pointer (some ⟨gW, 0, none⟩) := hF 8 (znd (by kernel_rfl))
            have d8 := zgD e8
            clear hD hF
            go_simp
            exact hK _ _ (Below.refl _ _) rfl
          | 9, _ =>
            intro o ho ac w' hR hF hD K hK
            simp only [zqA, zqZ, zqS, zqI] at ho
            subst ho
            have e81 : ac.tmps.getD 81 undef = .pointer (some ⟨gW, 3, none⟩) := hD 8 (zdp (by kernel_rfl)) 81 rfl
            have d81 := zgD e81
            clear hD hF
            have q0 : w'.cell? ⟨gW, 3, none⟩ = some (.int .i64 5) := bcell hR d3
            go_simp
            exact hK _ _ (Below.refl _ _) rfl
          | 10, _ =>
            intro o ho ac w' hR hF hD K hK
            simp only [zqA, zqZ, zqS, zqI] at ho
            subst ho
            have e80 : ac.tmps.getD 80 undef = .agg #[.string su, .int .i64 (bu : Int)] := hD 7 (zdp (by kernel_rfl)) 80 rfl
            have d80 := zgD e80
            have e82 : ac.tmps.getD 82 undef = .int .i64 5 := hD 9 (zdp (by kernel_rfl)) 82 rfl
            have d82 := zgD e82
            clear hD hF
            go_simp
            refine (A1.out w').mono ?_
            rintro e w2 ⟨rfl, hb2⟩
            exact hK _ _ hb2 rfl
          | 11, _ =>
            intro o ho ac w' hR hF hD K hK
            simp only [zqA, zqZ, zqS, zqI] at ho
            subst ho
            have e75 : ac.tmps.getD 75 undef = .string (wd ++ (⟨#[32]⟩ : ByteArray)) := hD 2 (zdp (by kernel_rfl)) 75 rfl
            have d75 := zgD e75
            have e83 : ac.tmps.getD 83 undef = .string lu := hD 10 (zdp (by kernel_rfl)) 83 rfl
            have d83 := zgD e83
            clear hD hF
            go_simp
            rw [if_neg (by omega)]
            exact hK _ _ (Below.refl _ _) rfl
          | 12, _ =>
            intro o ho ac w' hR hF hD K hK
            simp only [zqA, zqZ, zqS, zqI] at ho
            subst ho
            have e10 : ac.tmps.getD 10 undef = .pointer (some ⟨gP, 0, none⟩) := hF 10 (znd (by kernel_rfl))
            have d10 := zgD e10
            have e73 : ac.tmps.getD 73 undef = .pointer (some ⟨gW, 0, none⟩) := hD 0 (zdp (by kernel_rfl)) 73 rfl
            have d73 := zgD e73
            have e74 : ac.tmps.getD 74 undef = .string wd := hD 1 (zdp (by kernel_rfl)) 74 rfl
            have d74 := zgD e74
            have e75 : ac.tmps.getD 75 undef = .string (wd ++ (⟨#[32]⟩ : ByteArray)) := hD 2 (zdp (by kernel_rfl)) 75 rfl
            have d75 := zgD e75
            have e76 : ac.tmps.getD 76 undef = .slice (some ⟨sb, 0, none⟩) m sc := hD 3 (zdp (by kernel_rfl)) 76 rfl
            have d76 := zgD e76
            have e77 : ac.tmps.getD 77 undef = .int .i64 (m : Int) := hD 4 (zdp (by kernel_rfl)) 77 rfl
            have d77 := zgD e77
            have e78 : ac.tmps.getD 78 undef = .int .i64 ((m : Int) - 1) := hD 5 (zdp (by kernel_rfl)) 78 rfl
            have d78 := zgD e78
            have e79 : ac.tmps.getD 79 undef = .pointer (some ⟨sb, m1 * 2, none⟩) := hD 6 (zdp (by kernel_rfl)) 79 rfl
            have d79 := zgD e79
            have e80 : ac.tmps.getD 80 undef = .agg #[.string su, .int .i64 (bu : Int)] := hD 7 (zdp (by kernel_rfl)) 80 rfl
            have d80 := zgD e80
            have e81 : ac.tmps.getD 81 undef = .pointer (some ⟨gW, 3, none⟩) := hD 8 (zdp (by kernel_rfl)) 81 rfl
            have d81 := zgD e81
            have e82 : ac.tmps.getD 82 undef = .int .i64 5 := hD 9 (zdp (by kernel_rfl)) 82 rfl
            have d82 := zgD e82
            have e83 : ac.tmps.getD 83 undef = .string lu := hD 10 (zdp (by kernel_rfl)) 83 rfl
            have d83 := zgD e83
            have e84 : ac.tmps.getD 84 undef = .string (wd ++ (⟨#[32]⟩ : ByteArray) ++ lu) := hD 11 (zdp (by kernel_rfl)) 84 rfl
            have d84 := zgD e84
            clear hD hF
            go_simp
            exact hK _ _ (Below.refl _ _) rfl
          | k + 13, hk => omega
        · rintro ⟨tm, df⟩ w5 hdf hsz hF hR9 hV
          obtain rfl : df = [] := hdf
          obtain ⟨q, rfl⟩ := frame114 tm hsz
          have k84 : q 84 = .string (wd ++ (⟨#[32]⟩ : ByteArray) ++ lu) := hV 11 84 (by decide) rfl
          have k85 : q 85 = .pointer (some ⟨gP, 0, none⟩) := hV 12 85 (by decide) rfl
          simp only [k84, k85]
          clear k84 k85
          have kk := zbk hF [0, 1, 2, 3, 4, 5, 6, 7, 8, 9, 10, 11, 12, 13, 14, 15, 16, 17, 18, 19, 20, 21, 22, 23, 24, 25, 26, 27, 28, 29, 30, 31, 32, 33, 34, 35, 36, 37, 38, 39, 40, 41, 42, 43, 44, 45, 46, 47, 48, 49, 50, 51, 52, 53, 54, 55, 56, 57, 58, 59, 60, 61, 62, 63, 64, 65, 66, 67, 68, 69, 70, 71, 72, 86, 87, 88, 89, 90, 91, 92, 93, 94, 95, 96, 97, 98, 99, 100, 101, 102, 103, 104, 105, 106, 107, 108, 109, 110, 111, 112, 113] (by kernel_rfl)
          simp only [Bk, Array.getD_eq_getD_getElem?, zqA, zqS, zqZ, Option.getD_some] at kk
          simp only [kk]
          clear kk
          clear hF hV hsz
          change wpAny _ _ _ _ 1 _ _ _
          refine wpAny_ready (rs := [13]) (by kernel_rfl) (by simp) ?_
          refine AllReady.cons (i := 13) rfl (fun K hK => ?_) AllReady.nil
          have q5 := Lib.hid (qf.out.below hR9)
          have c5 : w5.cell? ⟨gP, 0, none⟩ = some (.string wd) := q5.out.cell 0
          have f5 := q5.out.free 0
          go_simp
          refine hK _ _ ?_
          clear hK K c5 f5
          refine ⟨by kernel_rfl, ?_⟩
          have z5 := Lib.hid (btrans zf.out hR9)
          have own5 : Hid (OwnR w5 w.heap.size TPc 2 (some ⟨sb, 0, none⟩) m sc (pcs nm (u :: S1))) := OwnR.keeps (S := fun _ => False) ownf.out (Keeps.of_below hR9) (fun _ _ h => h)
          have qNX := Lib.hid (qNf.out.below hR9)
          have qWX := Lib.hid (qWf.out.below hR9)
          clear hR9 zf ownf qNf qWf qf c0 c1 d0 d2 d3 p0 pf
          clear z1s RU
          have q6 := Lib.hid (show RowAt (w5.setCell ⟨gP, 0, none⟩ (.string (wd ++ (⟨#[32]⟩ : ByteArray) ++ lu))) gP TPc [.string (wd ++ (⟨#[32]⟩ : ByteArray) ++ lu), .int .i64 bi] from q5.out.set 0 (.string (wd ++ (⟨#[32]⟩ : ByteArray) ++ lu)))
          have k6 : Keeps w5 (w5.setCell ⟨gP, 0, none⟩ (.string (wd ++ (⟨#[32]⟩ : ByteArray) ++ lu))) (fun j => j = gP) := Keeps.set _ _ _ _ rfl
          have z6 := Lib.hid (k6.below z5.out (fun j hj => by cases hj; exact hgPb.out))
          have own6 : Hid (OwnR (w5.setCell ⟨gP, 0, none⟩ (.string (wd ++ (⟨#[32]⟩ : ByteArray) ++ lu))) w.heap.size TPc 2 (some ⟨sb, 0, none⟩) m sc (pcs nm (u :: S1))) := OwnR.keeps own5.out k6 (fun j hj e => hneP.out j hj e)
          have qN6 := Lib.hid (qNX.out.keeps k6 hneN.out)
          have qW6 := Lib.hid (qWX.out.keeps k6 hneW.out)
          generalize w5.setCell ⟨gP, 0, none⟩ (.string (wd ++ (⟨#[32]⟩ : ByteArray) ++ lu)) = w6 at q6 z6 own6 qN6 qW6 ⊢
          clear k6 q5 z5 own5
          by_cases hk4 : (k : Int) = 4
          · have hk4B : ((k : Int) == 4) = true := by rw [hk4]; rfl
            have hk4N : (k == 4) = true := by have : k = 4 := by omega
                                              rw [this]; rfl
            have c0 : w6.cell? ⟨gN, 0, none⟩ = some (.int .i64 (k : Int)) := qN6.out.cell 0
            have hP4 := hP4.out hk4
            replace hP4 := Lib.hid hP4
            have d0 : w6.cell? ⟨gW, 0, none⟩ = some (.string wd) := qW6.out.cell 0
            have d3 : w6.cell? ⟨gW, 3, none⟩ = some (.int .i64 5) := qW6.out.cell 3
            have RU : Hid (∀ v, Below w6.heap.size w6 v → v.rangeAt sb (m1 * 2) [.string su, .int .i64 (bu : Int)]) := fun v hb => RU0.out v (OwnR.keeps (S := fun _ => False) own6.out (Keeps.of_below hb) (fun _ _ h => h))
            clear hk4 hP5
            go_upto_region 15 with (fail)
            refine wp_region_kp (by kernel_rfl) 12 [.fix (.pointer (some ⟨gW, 0, none⟩)), .fix (.string wd), .fix (.slice (some ⟨sb, 0, none⟩) m sc), .fix (.int .i64 (m : Int)), .fix (.int .i64 ((m : Int) - 1)), .fix (.pointer (some ⟨sb, m1 * 2, none⟩)), .fix (.agg #[.string su, .int .i64 (bu : Int)]), .fix (.pointer (some ⟨gW, 3, none⟩)), .fix (.int .i64 5), .fix (.string lu), .fix (.string (wd ++ lu)), .fix (.pointer (some ⟨gP, 0, none⟩))] (by kernel_rfl) (by kernel_rfl) (by kernel_rfl) ?_ ?_
            · intro i hi
              match i, hi with
              | 0, _ =>
                intro o ho ac w' hR hF hD K hK
                simp only [zqA, zqZ, zqI] at ho
                subst ho
                have e8 : ac.tmps.getD 8 undef = .pointer (some ⟨gW, 0, none⟩) := hF 8 (znd (by kernel_rfl))
                have d8 := zgD e8
                clear hD hF
                go_simp
                exact hK _ _ (Below.refl _ _) rfl
              | 1, _ =>
                intro o ho ac w' hR hF hD K hK
                simp only [zqA, zqZ, zqS, zqI] at ho
                subst ho
                have e89 : ac.tmps.getD 89 undef = .pointer (some ⟨gW, 0, none⟩) := hD 0 (zdp (by kernel_rfl)) 89 rfl
                have d89 := zgD e89
                clear hD hF
                have q0 : w'.cell? ⟨gW, 0, none⟩ = some (.string wd) := bcell hR d0
                go_simp
                exact hK _ _ (Below.refl _ _) rfl
              | 2, _ =>
                intro o ho ac w' hR hF hD K hK
                simp only [zqA, zqZ, zqS, zqI] at ho
                subst ho
                have e5 : ac.tmps.getD 5 undef = .slice (some ⟨sb, 0, none⟩) m sc := hF 5 (znd (by kernel_rfl))
                have d5 := zgD e5
                clear hD hF
                go_simp
                exact hK _ _ (Below.refl _ _) rfl
              | 3, _ =>
                intro o ho ac w' hR hF hD K hK
                simp only [zqA, zqZ, zqS, zqI] at ho
                subst ho
                have e9 : ac.tmps.getD 9 undef = .int .i64 (m : Int) := hF 9 (znd (by kernel_rfl))
                have d9 := zgD e9
                clear hD hF
                go_simp
                exact hK _ _ (Below.refl _ _) rfl
              | 4, _ =>
                intro o ho ac w' hR hF hD K hK
                simp only [zqA, zqZ, zqS, zqI] at ho
                subst ho
                have e92 : ac.tmps.getD 92 undef = .int .i64 (m : Int) := hD 3 (zdp (by kernel_rfl)) 92 rfl
                have d92 := zgD e92
                clear hD hF
                go_simp
                exact hK _ _ (Below.refl _ _) rfl
              | 5, _ =>
                intro o ho ac w' hR hF hD K hK
                simp only [zqA, zqZ, zqS, zqI] at ho
                subst ho
                have e91 : ac.tmps.getD 91 undef = .slice (some ⟨sb, 0, none⟩) m sc := hD 2 (zdp (by kernel_rfl)) 91 rfl
                have d91 := zgD e91
                have e93 : ac.tmps.getD 93 undef = .int .i64 ((m : Int) - 1) := hD 4 (zdp (by kernel_rfl)) 93 rfl
                have d93 := zgD e93
                clear hD hF
                go_simp
                exact hK _ _ (Below.refl _ _) rfl
              | 6, _ =>
                intro o ho ac w' hR hF hD K hK
                simp only [zqA, zqZ, zqS, zqI] at ho
                subst ho
                have e94 : ac.tmps.getD 94 undef = .pointer (some ⟨sb, m1 * 2, none⟩) := hD 5 (zdp (by kernel_rfl)) 94 rfl
                have d94 := zgD e94
                clear hD hF
                exact step_loadM undPc (RU.out w' hR) rfl rfl 94 rfl e94 (hK _ _ (Below.refl _ _) rfl)
              | 7, _ =>
                intro o ho ac w' hR hF hD K hK
                simp only [zqA, zqZ, zqS, zqI] at ho
                subst ho
                have e8 : ac.tmps.getD 8 undef = .pointer (some ⟨gW, 0, none⟩) := hF 8 (znd (by kernel_rfl))
                have d8 := zgD e8
                clear hD hF
                go_simp
                exact hK _ _ (Below.refl _ _) rfl
              | 8, _ =>
                intro o ho ac w' hR hF hD K hK
                simp only [zqA, zqZ, zqS, zqI] at ho
                subst ho
                have e96 : ac.tmps.getD 96 undef = .pointer (some ⟨gW, 3, none⟩) := hD 7 (zdp (by kernel_rfl)) 96 rfl
                have d96 := zgD e96
                clear hD hF
                have q0 : w'.cell? ⟨gW, 3, none⟩ = some (.int .i64 5) := bcell hR d3
                go_simp
                exact hK _ _ (Below.refl _ _) rfl
              | 9, _ =>
                intro o ho ac w' hR hF hD K hK
                simp only [zqA, zqZ, zqS, zqI] at ho
                subst ho
                have e95 : ac.tmps.getD 95 undef = .agg #[.string su, .int .i64 (bu : Int)] := hD 6 (zdp (by kernel_rfl)) 95 rfl
                have d95 := zgD e95
                have e97 : ac.tmps.getD 97 undef = .int .i64 5 := hD 8 (zdp (by kernel_rfl)) 97 rfl
                have d97 := zgD e97
                clear hD hF
                go_simp
                refine (A1.out w').mono ?_
                rintro e w2 ⟨rfl, hb2⟩
                exact hK _ _ hb2 rfl
              | 10, _ =>
                intro o ho ac w' hR hF hD K hK
                simp only [zqA, zqZ, zqS, zqI] at ho
                subst ho
                have e90 : ac.tmps.getD 90 undef = .string wd := hD 1 (zdp (by kernel_rfl)) 90 rfl
                have d90 := zgD e90
                have e98 : ac.tmps.getD 98 undef = .string lu := hD 9 (zdp (by kernel_rfl)) 98 rfl
                have d98 := zgD e98
                clear hD hF
                go_simp
                rw [if_neg (by omega)]
                exact hK _ _ (Below.refl _ _) rfl
              | 11, _ =>
                intro o ho ac w' hR hF hD K hK
                simp only [zqA, zqZ, zqS, zqI] at ho
                subst ho
                have e10 : ac.tmps.getD 10 undef = .pointer (some ⟨gP, 0, none⟩) := hF 10 (znd (by kernel_rfl))
                have d10 := zgD e10
                have e89 : ac.tmps.getD 89 undef = .pointer (some ⟨gW, 0, none⟩) := hD 0 (zdp (by kernel_rfl)) 89 rfl
                have d89 := zgD e89
                have e90 : ac.tmps.getD 90 undef = .string wd := hD 1 (zdp (by kernel_rfl)) 90 rfl
                have d90 := zgD e90
                have e91 : ac.tmps.getD 91 undef = .slice (some ⟨sb, 0, none⟩) m sc := hD 2 (zdp (by kernel_rfl)) 91 rfl
                have d91 := zgD e91
                have e92 : ac.tmps.getD 92 undef = .int .i64 (m : Int) := hD 3 (zdp (by kernel_rfl)) 92 rfl
                have d92 := zgD e92
                have e93 : ac.tmps.getD 93 undef = .int .i64 ((m : Int) - 1) := hD 4 (zdp (by kernel_rfl)) 93 rfl
                have d93 := zgD e93
                have e94 : ac.tmps.getD 94 undef = .pointer (some ⟨sb, m1 * 2, none⟩) := hD 5 (zdp (by kernel_rfl)) 94 rfl
                have d94 := zgD e94
                have e95 : ac.tmps.getD 95 undef = .agg #[.string su, .int .i64 (bu : Int)] := hD 6 (zdp (by kernel_rfl)) 95 rfl
                have d95 := zgD e95
                have e96 : ac.tmps.getD 96 undef = .pointer (some ⟨gW, 3, none⟩) := hD 7 (zdp (by kernel_rfl)) 96 rfl
                have d96 := zgD e96
                have e97 : ac.tmps.getD 97 undef = .int .i64 5 := hD 8 (zdp (by kernel_rfl)) 97 rfl
                have d97 := zgD e97
                have e98 : ac.tmps.getD 98 undef = .string lu := hD 9 (zdp (by kernel_rfl)) 98 rfl
                have d98 := zgD e98
                have e99 : ac.tmps.getD 99 undef = .string (wd ++ lu) := hD 10 (zdp (by kernel_rfl)) 99 rfl
                have d99 := zgD e99
                clear hD hF
                go_simp
                exact hK _ _ (Below.refl _ _) rfl
              | k + 12, hk => omega
            · rintro ⟨tm, df⟩ w5 hdf hsz hF hR9 hV
              obtain rfl : df = [] := hdf
              obtain ⟨q, rfl⟩ := frame114 tm hsz
              have k99 : q 99 = .string (wd ++ lu) := hV 10 99 (by decide) rfl
              have k100 : q 100 = .pointer (some ⟨gP, 0, none⟩) := hV 11 100 (by decide) rfl
              simp only [k99, k100]
              clear k99 k100
              have kk := zbk hF [0, 1, 2, 3, 4, 5, 6, 7, 8, 9, 10, 11, 12, 13, 14, 15, 16, 17, 18, 19, 20, 21, 22, 23, 24, 25, 26, 27, 28, 29, 30, 31, 32, 33, 34, 35, 36, 37, 38, 39, 40, 41, 42, 43, 44, 45, 46, 47, 48, 49, 50, 51, 52, 53, 54, 55, 56, 57, 58, 59, 60, 61, 62, 63, 64, 65, 66, 67, 68, 69, 70, 71, 72, 73, 74, 75, 76, 77, 78, 79, 80, 81, 82, 83, 84, 85, 86, 87, 88, 101, 102, 103, 104, 105, 106, 107, 108, 109, 110, 111, 112, 113] (by kernel_rfl)
              simp only [Bk, Array.getD_eq_getD_getElem?, zqA, zqS, zqZ, Option.getD_some] at kk
              simp only [kk]
              clear kk
              clear hF hV hsz
              change wpAny _ _ _ _ 1 _ _ _
              refine wpAny_ready (rs := [12]) (by kernel_rfl) (by simp) ?_
              refine AllReady.cons (i := 12) rfl (fun K hK => ?_) AllReady.nil
              have q5 := Lib.hid (q6.out.below hR9)
              have c5 : w5.cell? ⟨gP, 0, none⟩ = some (.string (wd ++ (⟨#[32]⟩ : ByteArray) ++ lu)) := q5.out.cell 0
              have f5 := q5.out.free 0
              go_simp
              refine hK _ _ ?_
              clear hK K c5 f5
              refine ⟨by kernel_rfl, ?_⟩
              have z5 := Lib.hid (btrans z6.out hR9)
              have own5 : Hid (OwnR w5 w.heap.size TPc 2 (some ⟨sb, 0, none⟩) m sc (pcs nm (u :: S1))) := OwnR.keeps (S := fun _ => False) own6.out (Keeps.of_below hR9) (fun _ _ h => h)
              have qNX := Lib.hid (qN6.out.below hR9)
              have qWX := Lib.hid (qW6.out.below hR9)
              clear hR9 z6 own6 qN6 qW6 q6 c0 d0 d3 RU
              have q6 := Lib.hid (show RowAt (w5.setCell ⟨gP, 0, none⟩ (.string (wd ++ lu))) gP TPc [.string (wd ++ lu), .int .i64 bi] from q5.out.set 0 (.string (wd ++ lu)))
              have k6 : Keeps w5 (w5.setCell ⟨gP, 0, none⟩ (.string (wd ++ lu))) (fun j => j = gP) := Keeps.set _ _ _ _ rfl
              have z6 := Lib.hid (k6.below z5.out (fun j hj => by cases hj; exact hgPb.out))
              have own6 : Hid (OwnR (w5.setCell ⟨gP, 0, none⟩ (.string (wd ++ lu))) w.heap.size TPc 2 (some ⟨sb, 0, none⟩) m sc (pcs nm (u :: S1))) := OwnR.keeps own5.out k6 (fun j hj e => hneP.out j hj e)
              have qN6 := Lib.hid (qNX.out.keeps k6 hneN.out)
              have qW6 := Lib.hid (qWX.out.keeps k6 hneW.out)
              generalize w5.setCell ⟨gP, 0, none⟩ (.string (wd ++ lu)) = w6 at q6 z6 own6 qN6 qW6 ⊢
              clear k6 q5 z5 own5
              have own9' : Hid (OwnR w6 w.heap.size TPc 2 (some ⟨sb, 0, none⟩) m1 sc (pcs nm S1)) := by
                have h1 := OwnR.shrink own6.out (m := m1) (by have := hm2.out; omega)
                rw [hm1.out, pcs_take, ← hm1.out] at h1
                exact h1
              have hP := Lib.hid (hP4.out)
              obtain ⟨p, hp⟩ : ∃ p : ByteArray, p = wd ++ lu := ⟨_, rfl⟩
              rw [← hp] at q6 hP ⊢
              replace hp := Lib.hid hp
              have RH2 := RH.out
              clear hP4 RU0 tn2 ge2 lt2
              go_upto_region 16 with (fail)
              refine wp_region_list ?_
              refine wpList_plain rfl (fun K hK => ?_)
              go_simp
              refine hK _ _ ?_
              clear hK K
              refine wpList_plain rfl (fun K hK => ?_)
              go_simp
              refine hK _ _ ?_
              clear hK K
              refine wpList_plain rfl (fun K hK => ?_)
              go_simp
              refine hK _ _ ?_
              clear hK K
              refine wpList_plain rfl (fun K hK => ?_)
              go_simp
              refine hK _ _ ?_
              clear hK K
              refine wpList_plain rfl (fun K hK => ?_)
              go_simp
              refine hK _ _ ?_
              clear hK K
              refine wpList_nil ?_
              clear own6 RH RH2 wr2
              go_upto_region 17 with (fail)
              refine wp_region_list ?_
              refine wpList_plain rfl (fun K hK => ?_)
              go_simp
              refine hK _ _ ?_
              clear hK K
              refine list_load undPc infoPc q6.out rfl rfl 10 rfl rfl ?_
              rw [show ([.string p, .int .i64 bi] : List Value).toArray = #[.string p, .int .i64 bi] from rfl]
              refine wpList_plain rfl (fun K hK => ?_)
              go_simp
              refine hK _ _ ?_
              clear hK K
              obtain ⟨w7, hw7⟩ : ∃ w7, w7 = w6.alloc (.cells #[.string p, .int .i64 bi] TPc) := ⟨_, rfl⟩
              obtain ⟨g7, hg7⟩ : ∃ g7, g7 = w6.heap.size := ⟨_, rfl⟩
              have r7 : RowAt w7 g7 TPc [.string p, .int .i64 bi] := by rw [hw7]; exact RowAt.new #[.string p, .int .i64 bi] hg7
              have b67 : Below w6.heap.size w6 w7 := by rw [hw7]; exact balloc (Below.refl _ _) _
              rw [← hw7, ← hg7]
              have own7 : OwnR w7 w.heap.size TPc 2 (some ⟨sb, 0, none⟩) m1 sc (pcs nm S1) := OwnR.keeps (S := fun _ => False) own9'.out (Keeps.of_below b67) (fun _ _ h => h)
              have z7 := Lib.hid (btrans z6.out b67)
              replace hw7 := Lib.hid hw7
              replace hg7 := Lib.hid hg7
              refine wp_appR rfl (.tmp 105) (.tmp 107) 67 TPc (.agg #[.string ⟨#[]⟩, .int .i64 0]) 2 24 rfl Tryz.underlying67 infoPc3 rfl (by decide) w.heap.size (some ⟨sb, 0, none⟩) m1 sc (pcs nm S1) rfl own7 g7 1 [.string p, .int .i64 bi] rfl rfl (fun j u hj => by
                have := r7.cell j
                rw [hj] at this
                rw [add_off, Nat.zero_add]
                exact this) pc_one (by unfold maxLen; omega) (by omega) z7.out.size ?_
              intro sa8 sc8 w8 own8 hg8 _
              have z8 := Lib.hid (bgrown z7.out hg8 (fun j hj => (OwnR.lt own7 hj).1))
              have own9 : Hid (OwnR w8 w.heap.size TPc 2 sa8 (m1 + 1) sc8 (pcs nm ((Fm.un ((k : Int), y) u) :: S1))) := by
                show OwnR _ _ _ _ _ _ _ _
                rw [pcs_cons, ← hP.out]
                exact own8
              clear own8 hg8 own7 r7 b67 z7 own9' q6 z6
              refine wpList_plain rfl (fun K hK => ?_)
              go_simp
              refine hK _ _ ?_
              clear hK K
              refine wpList_nil ?_
              have hm9 : Hid (m1 + 1 = ((Fm.un ((k : Int), y) u) :: S1).length) := by show _ = _; rw [List.length_cons, hm1.out]
              have st9 := Lib.hid (st2.out)
              generalize ((Fm.un ((k : Int), y) u) :: S1) = S9 at own9 hm9 st9
              go_wp2
              go_roundw
              case rel => exact ⟨i + 1, S9, sa8, m1 + 1, sc8, rfl, by go_num, by omega, by omega, hm9, st9, own9, z8⟩
              case measure => simp [intOf]; omega
          · have hk4B : ((k : Int) == 4) = false := by rw [beq_eq_false_iff_ne]; exact hk4
            have hk4N : (k == 4) = false := by rw [beq_eq_false_iff_ne]; omega
            have c0 : w6.cell? ⟨gN, 0, none⟩ = some (.int .i64 (k : Int)) := qN6.out.cell 0
            have hP5 := hP5.out hk4
            replace hP5 := Lib.hid hP5
            clear hk4 A1
            have own9' : Hid (OwnR w6 w.heap.size TPc 2 (some ⟨sb, 0, none⟩) m1 sc (pcs nm S1)) := by
              have h1 := OwnR.shrink own6.out (m := m1) (by have := hm2.out; omega)
              rw [hm1.out, pcs_take, ← hm1.out] at h1
              exact h1
            have hP := Lib.hid (hP5.out)
            obtain ⟨p, hp⟩ : ∃ p : ByteArray, p = wd ++ (⟨#[32]⟩ : ByteArray) ++ lu := ⟨_, rfl⟩
            rw [← hp] at q6 hP ⊢
            replace hp := Lib.hid hp
            have RH2 := RH.out
            clear hP4 hP5 RU0 tn2 ge2 lt2
            go_upto_region 16 with (fail)
            refine wp_region_list ?_
            refine wpList_plain rfl (fun K hK => ?_)
            go_simp
            refine hK _ _ ?_
            clear hK K
            refine wpList_plain rfl (fun K hK => ?_)
            go_simp
            refine hK _ _ ?_
            clear hK K
            refine wpList_plain rfl (fun K hK => ?_)
            go_simp
            refine hK _ _ ?_
            clear hK K
            refine wpList_plain rfl (fun K hK => ?_)
            go_simp
            refine hK _ _ ?_
            clear hK K
            refine wpList_plain rfl (fun K hK => ?_)
            go_simp
            refine hK _ _ ?_
            clear hK K
            refine wpList_nil ?_
            clear own6 RH RH2 wr2
            go_upto_region 17 with (fail)
            refine wp_region_list ?_
            refine wpList_plain rfl (fun K hK => ?_)
            go_simp
            refine hK _ _ ?_
            clear hK K
            refine list_load undPc infoPc q6.out rfl rfl 10 rfl rfl ?_
            rw [show ([.string p, .int .i64 bi] : List Value).toArray = #[.string p, .int .i64 bi] from rfl]
            refine wpList_plain rfl (fun K hK => ?_)
            go_simp
            refine hK _ _ ?_
            clear hK K
            obtain ⟨w7, hw7⟩ : ∃ w7, w7 = w6.alloc (.cells #[.string p, .int .i64 bi] TPc) := ⟨_, rfl⟩
            obtain ⟨g7, hg7⟩ : ∃ g7, g7 = w6.heap.size := ⟨_, rfl⟩
            have r7 : RowAt w7 g7 TPc [.string p, .int .i64 bi] := by rw [hw7]; exact RowAt.new #[.string p, .int .i64 bi] hg7
            have b67 : Below w6.heap.size w6 w7 := by rw [hw7]; exact balloc (Below.refl _ _) _
            rw [← hw7, ← hg7]
            have own7 : OwnR w7 w.heap.size TPc 2 (some ⟨sb, 0, none⟩) m1 sc (pcs nm S1) := OwnR.keeps (S := fun _ => False) own9'.out (Keeps.of_below b67) (fun _ _ h => h)
            have z7 := Lib.hid (btrans z6.out b67)
            replace hw7 := Lib.hid hw7
            replace hg7 := Lib.hid hg7
            refine wp_appR rfl (.tmp 105) (.tmp 107) 67 TPc (.agg #[.string ⟨#[]⟩, .int .i64 0]) 2 24 rfl Tryz.underlying67 infoPc3 rfl (by decide) w.heap.size (some ⟨sb, 0, none⟩) m1 sc (pcs nm S1) rfl own7 g7 1 [.string p, .int .i64 bi] rfl rfl (fun j u hj => by
              have := r7.cell j
              rw [hj] at this
              rw [add_off, Nat.zero_add]
              exact this) pc_one (by unfold maxLen; omega) (by omega) z7.out.size ?_
            intro sa8 sc8 w8 own8 hg8 _
            have z8 := Lib.hid (bgrown z7.out hg8 (fun j hj => (OwnR.lt own7 hj).1))
            have own9 : Hid (OwnR w8 w.heap.size TPc 2 sa8 (m1 + 1) sc8 (pcs nm ((Fm.un ((k : Int), y) u) :: S1))) := by
              show OwnR _ _ _ _ _ _ _ _
              rw [pcs_cons, ← hP.out]
              exact own8
            clear own8 hg8 own7 r7 b67 z7 own9' q6 z6
            refine wpList_plain rfl (fun K hK => ?_)
            go_simp
            refine hK _ _ ?_
            clear hK K
            refine wpList_nil ?_
            have hm9 : Hid (m1 + 1 = ((Fm.un ((k : Int), y) u) :: S1).length) := by show _ = _; rw [List.length_cons, hm1.out]
            have st9 := Lib.hid (st2.out)
            generalize ((Fm.un ((k : Int), y) u) :: S1) = S9 at own9 hm9 st9
            go_wp2
            go_roundw
            case rel => exact ⟨i + 1, S9, sa8, m1 + 1, sc8, rfl, by go_num, by omega, by omega, hm9, st9, own9, z8⟩
            case measure => simp [intOf]; omega
      · replace st2 := Lib.hid st2
        clear CS HX NMX NS
        have hkB : ((k : Int) == 3) = false := by rw [beq_eq_false_iff_ne]; intro e; rw [takes_prop e] at h2; cases h2
        have hkN : (k == 3) = false := by rw [beq_eq_false_iff_ne]; intro e; rw [takes_prop (op := (k : Int)) (by omega)] at h2; cases h2
        obtain ⟨ln, hln⟩ : ∃ ln, ln = leftP (k : Int) := ⟨_, rfl⟩
        obtain ⟨rn, hrn⟩ : ∃ rn, rn = rightP (k : Int) := ⟨_, rfl⟩
        have hlnp : 0 < ln := by rw [hln]; rcases binds_two h2 with h | h | h | h <;> omega
        have hle0 : le = (ln : Int) := by rw [hle.out, if_pos h2, hln]
        have hri0 : ri = (rn : Int) := by rw [hri.out, if_neg (by omega), hrn]
        subst hle0
        subst hri0
        have hlnI : (0 : Int) < (ln : Int) := by omega
        subst hS
        obtain ⟨m1, hm1⟩ : ∃ m1, m1 = S1.length := ⟨_, rfl⟩
        have hm2 : m = m1 + 2 := by have := hm.out; simp only [List.length_cons] at this; omega
        obtain ⟨sb, esa, _, hsb⟩ := OwnR.addr ownf.out (by omega)
        subst esa
        have RU : Hid (∀ v, Below wf.heap.size wf v → v.rangeAt sb (m1 * 2) (pcV nm u)) := fun v hb => by
          rw [hm1]
          exact pcs_below (OwnR.keeps (S := fun _ => False) ownf.out (Keeps.of_below hb) (fun _ _ h => h)) (by rw [← hm1]; exact hm2)
        have RV : Hid (∀ v, Below wf.heap.size wf v → v.rangeAt sb ((m1 + 1) * 2) (pcV nm v0)) := fun v hb => by
          have := pcs_top (S := u :: S1) (OwnR.keeps (S := fun _ => False) ownf.out (Keeps.of_below hb) (fun _ _ h => h)) (by rw [List.length_cons, ← hm1]; exact hm2)
          rw [List.length_cons, ← hm1] at this
          exact this
        have A1 := Lib.hid (fun v => AT.out v (txt nm u) (bindsP u.head.1) ln (by have := SH0.out u (List.mem_cons_of_mem _ (List.mem_cons_self ..)); omega))
        have A2 := Lib.hid (fun v => AT.out v (txt nm v0) (bindsP v0.head.1) rn (by have := SH0.out v0 (List.mem_cons_self ..); omega))
        have hsu := brk_size (s := txt nm u) ln (bindsP u.head.1) (SH0.out u (List.mem_cons_of_mem _ (List.mem_cons_self ..)))
        have hsv := brk_size (s := txt nm v0) rn (bindsP v0.head.1) (SH0.out v0 (List.mem_cons_self ..))
        have htx := bin_txt nm ((k : Int), y) u v0
        dsimp only at htx
        rw [← hln, ← hrn, ← hwd.out] at htx
        obtain ⟨lu, hlu⟩ : ∃ lu : ByteArray, lu = ⟨(brk ln (txt nm u) (bindsP u.head.1)).toArray⟩ := ⟨_, rfl⟩
        obtain ⟨rv, hrv⟩ : ∃ rv : ByteArray, rv = ⟨(brk rn (txt nm v0) (bindsP v0.head.1)).toArray⟩ := ⟨_, rfl⟩
        rw [← hlu] at A1 hsu htx
        rw [← hrv] at A2 hsv htx
        have hP : Hid (([.string (lu ++ (⟨#[32]⟩ : ByteArray) ++ wd ++ (⟨#[32]⟩ : ByteArray) ++ rv), .int .i64 bi] : List Value) = pcV nm (.bin ((k : Int), y) u v0)) := by
          show _ = _
          unfold pcV
          rw [htx, hbi.out]
          rfl
        unfold pcV at RU RV
        obtain ⟨su, hsu2⟩ : ∃ su : ByteArray, su = ⟨(txt nm u).toArray⟩ := ⟨_, rfl⟩
        obtain ⟨sv, hsv2⟩ : ∃ sv : ByteArray, sv = ⟨(txt nm v0).toArray⟩ := ⟨_, rfl⟩
        rw [← hsu2] at RU A1
        rw [← hsv2] at RV A2
        generalize bindsP u.head.1 = bu at RU A1
        generalize bindsP v0.head.1 = bv at RV A2
        have z1s : ((lu ++ (⟨#[32]⟩ : ByteArray) : ByteArray).size : Int) ≤ 483 := cat_size hsu (Int.le_of_eq bl_size) (by decide)
        have z2s : ((lu ++ (⟨#[32]⟩ : ByteArray) ++ wd : ByteArray).size : Int) ≤ 488 := cat_size z1s hwds (by decide)
        have z3s : ((lu ++ (⟨#[32]⟩ : ByteArray) ++ wd ++ (⟨#[32]⟩ : ByteArray) : ByteArray).size : Int) ≤ 489 := cat_size z2s (Int.le_of_eq bl_size) (by decide)
        have wr1 : IntKind.i64.wrap ((m : Int) - 2) = (m : Int) - 2 := IntWalk.i64_in _ (by omega)
        have wr2 : IntKind.i64.wrap ((m : Int) - 1) = (m : Int) - 1 := IntWalk.i64_in _ (by omega)
        have tn1 : ((m : Int) - 2).toNat = m1 := by omega
        have tn2 : ((m : Int) - 1).toNat = m1 + 1 := by omega
        have ge1 : (0 : Int) ≤ (m : Int) - 2 := by omega
        have ge2 : (0 : Int) ≤ (m : Int) - 1 := by omega
        have gf1 : (2 : Int) ≤ (m : Int) := by omega
        have gf2 : (1 : Int) ≤ (m : Int) := by omega
        have lt1 : (m : Int) - 2 < (m : Int) := by omega
        have lt2 : (m : Int) - 1 < (m : Int) := by omega
        clear htx hlu hrv hsu2 hsv2 hln hrn hlnp
        replace hm1 := Lib.hid hm1
        replace hm2 := Lib.hid hm2
        go_upto_region 10 with (fail)
        refine wp_region_kp (by kernel_rfl) 23 [.fix (.slice (some ⟨sb, 0, none⟩) m sc), .fix (.int .i64 (m : Int)), .fix (.int .i64 ((m : Int) - 2)), .fix (.pointer (some ⟨sb, m1 * 2, none⟩)), .fix (.agg #[.string su, .int .i64 (bu : Int)]), .fix (.pointer (some ⟨gW, 2, none⟩)), .fix (.int .i64 (ln : Int)), .fix (.string lu), .fix (.string (lu ++ (⟨#[32]⟩ : ByteArray))), .fix (.pointer (some ⟨gW, 0, none⟩)), .fix (.string wd), .fix (.string (lu ++ (⟨#[32]⟩ : ByteArray) ++ wd)), .fix (.string (lu ++ (⟨#[32]⟩ : ByteArray) ++ wd ++ (⟨#[32]⟩ : ByteArray))), .fix (.slice (some ⟨sb, 0, none⟩) m sc), .fix (.int .i64 (m : Int)), .fix (.int .i64 ((m : Int) - 1)), .fix (.pointer (some ⟨sb, (m1 + 1) * 2, none⟩)), .fix (.agg #[.string sv, .int .i64 (bv : Int)]), .fix (.pointer (some ⟨gW, 3, none⟩)), .fix (.int .i64 (rn : Int)), .fix (.string rv), .fix (.string (lu ++ (⟨#[32]⟩ : ByteArray) ++ wd ++ (⟨#[32]⟩ : ByteArray) ++ rv)), .fix (.pointer (some ⟨gP, 0, none⟩))] (by kernel_rfl) (by kernel_rfl) (by kernel_rfl) ?_ ?_
        · intro i hi
          match i, hi with
          | 0, _ =>
            intro o ho ac w' hR hF hD K hK
            simp only [zqA, zqZ, zqI] at ho
            subst ho
            have e5 : ac.tmps.getD 5 undef = .slice (some ⟨sb, 0, none⟩) m sc := hF 5 (znd (by kernel_rfl))
            have d5 := zgD e5
            clear hD hF
            go_simp
            exact hK _ _ (Below.refl _ _) rfl
          | 1, _ =>
            intro o ho ac w' hR hF hD K hK
            simp only [zqA, zqZ, zqS, zqI] at ho
            subst ho
            have e9 : ac.tmps.getD 9 undef = .int .i64 (m : Int) := hF 9 (znd (by kernel_rfl))
            have d9 := zgD e9
            clear hD hF
            go_simp
            exact hK _ _ (Below.refl _ _) rfl
          | 2, _ =>
            intro o ho ac w' hR hF hD K hK
            simp only [zqA, zqZ, zqS, zqI] at ho
            subst ho
            have e43 : ac.tmps.getD 43 undef = .int .i64 (m : Int) := hD 1 (zdp (by kernel_rfl)) 43 rfl
            have d43 := zgD e43
            clear hD hF
            go_simp
            exact hK _ _ (Below.refl _ _) rfl
          | 3, _ =>
            intro o ho ac w' hR hF hD K hK
            simp only [zqA, zqZ, zqS, zqI] at ho
            subst ho
            have e42 : ac.tmps.getD 42 undef = .slice (some ⟨sb, 0, none⟩) m sc := hD 0 (zdp (by kernel_rfl)) 42 rfl
            have d42 := zgD e42
            have e44 : ac.tmps.getD 44 undef = .int .i64 ((m : Int) - 2) := hD 2 (zdp (by kernel_rfl)) 44 rfl
            have d44 := zgD e44
            clear hD hF
            go_simp
            exact hK _ _ (Below.refl _ _) rfl
          | 4, _ =>
            intro o ho ac w' hR hF hD K hK
            simp only [zqA, zqZ, zqS, zqI] at ho
            subst ho
            have e45 : ac.tmps.getD 45 undef = .pointer (some ⟨sb, m1 * 2, none⟩) := hD 3 (zdp (by kernel_rfl)) 45 rfl
            have d45 := zgD e45
            clear hD hF
            exact step_loadM undPc (RU.out w' hR) rfl rfl 45 rfl e45 (hK _ _ (Below.refl _ _) rfl)
          | 5, _ =>
            intro o ho ac w' hR hF hD K hK
            simp only [zqA, zqZ, zqS, zqI] at ho
            subst ho
            have e8 : ac.tmps.getD 8 undef = .pointer (some ⟨gW, 0, none⟩) := hF 8 (znd (by kernel_rfl))
            have d8 := zgD e8
            clear hD hF
            go_simp
            exact hK _ _ (Below.refl _ _) rfl
          | 6, _ =>
            intro o ho ac w' hR hF hD K hK
            simp only [zqA, zqZ, zqS, zqI] at ho
            subst ho
            have e47 : ac.tmps.getD 47 undef = .pointer (some ⟨gW, 2, none⟩) := hD 5 (zdp (by kernel_rfl)) 47 rfl
            have d47 := zgD e47
            clear hD hF
            have q0 : w'.cell? ⟨gW, 2, none⟩ = some (.int .i64 (ln : Int)) := bcell hR d2
            go_simp
            exact hK _ _ (Below.refl _ _) rfl
          | 7, _ =>
            intro o ho ac w' hR hF hD K hK
            simp only [zqA, zqZ, zqS, zqI] at ho
            subst ho
            have e46 : ac.tmps.getD 46 undef = .agg #[.string su, .int .i64 (bu : Int)] := hD 4 (zdp (by kernel_rfl)) 46 rfl
            have d46 := zgD e46
            have e48 : ac.tmps.getD 48 undef = .int .i64 (ln : Int) := hD 6 (zdp (by kernel_rfl)) 48 rfl
            have d48 := zgD e48
            clear hD hF
            go_simp
            refine (A1.out w').mono ?_
            rintro e w2 ⟨rfl, hb2⟩
            exact hK _ _ hb2 rfl
          | 8, _ =>
            intro o ho ac w' hR hF hD K hK
            simp only [zqA, zqZ, zqS, zqI] at ho
            subst ho
            have e49 : ac.tmps.getD 49 undef = .string lu := hD 7 (zdp (by kernel_rfl)) 49 rfl
            have d49 := zgD e49
            clear hD hF
            go_simp
            rw [if_neg (by omega)]
            exact hK _ _ (Below.refl _ _) rfl
          | 9, _ =>
            intro o ho ac w' hR hF hD K hK
            simp only [zqA, zqZ, zqS, zqI] at ho
            subst ho
            have e8 : ac.tmps.getD 8 undef = .pointer (some ⟨gW, 0, none⟩) := hF 8 (znd (by kernel_rfl))
            have d8 := zgD e8
            clear hD hF
            go_simp
            exact hK _ _ (Below.refl _ _) rfl
          | 10, _ =>
            intro o ho ac w' hR hF hD K hK
            simp only [zqA, zqZ, zqS, zqI] at ho
            subst ho
            have e51 : ac.tmps.getD 51 undef = .pointer (some ⟨gW, 0, none⟩) := hD 9 (zdp (by kernel_rfl)) 51 rfl
            have d51 := zgD e51
            clear hD hF
            have q0 : w'.cell? ⟨gW, 0, none⟩ = some (.string wd) := bcell hR d0
            go_simp
            exact hK _ _ (Below.refl _ _) rfl
          | 11, _ =>
            intro o ho ac w' hR hF hD K hK
            simp only [zqA, zqZ, zqS, zqI] at ho
            subst ho
            have e50 : ac.tmps.getD 50 undef = .string (lu ++ (⟨#[32]⟩ : ByteArray)) := hD 8 (zdp (by kernel_rfl)) 50 rfl
            have d50 := zgD e50
            have e52 : ac.tmps.getD 52 undef = .string wd := hD 10 (zdp (by kernel_rfl)) 52 rfl
            have d52 := zgD e52
            clear hD hF
            go_simp
            rw [if_neg (by omega)]
            exact hK _ _ (Below.refl _ _) rfl
          | 12, _ =>
            intro o ho ac w' hR hF hD K hK
            simp only [zqA, zqZ, zqS, zqI] at ho
            subst ho
            have e53 : ac.tmps.getD 53 undef = .string (lu ++ (⟨#[32]⟩ : ByteArray) ++ wd) := hD 11 (zdp (by kernel_rfl)) 53 rfl
            have d53 := zgD e53
            clear hD hF
            go_simp
            rw [if_neg (by omega)]
            exact hK _ _ (Below.refl _ _) rfl
          | 13, _ =>
            intro o ho ac w' hR hF hD K hK
            simp only [zqA, zqZ, zqS, zqI] at ho
            subst ho
            have e5 : ac.tmps.getD 5 undef = .slice (some ⟨sb, 0, none⟩) m sc := hF 5 (znd (by kernel_rfl))
            have d5 := zgD e5
            clear hD hF
            go_simp
            exact hK _ _ (Below.refl _ _) rfl
          | 14, _ =>
            intro o ho ac w' hR hF hD K hK
            simp only [zqA, zqZ, zqS, zqI] at ho
            subst ho
            have e9 : ac.tmps.getD 9 undef = .int .i64 (m : Int) := hF 9 (znd (by kernel_rfl))
            have d9 := zgD e9
            clear hD hF
            go_simp
            exact hK _ _ (Below.refl _ _) rfl
          | 15, _ =>
            intro o ho ac w' hR hF hD K hK
            simp only [zqA, zqZ, zqS, zqI] at ho
            subst ho
            have e56 : ac.tmps.getD 56 undef = .int .i64 (m : Int) := hD 14 (zdp (by kernel_rfl)) 56 rfl
            have d56 := zgD e56
            clear hD hF
            go_simp
            exact hK _ _ (Below.refl _ _) rfl
          | 16, _ =>
            intro o ho ac w' hR hF hD K hK
            simp only [zqA, zqZ, zqS, zqI] at ho
            subst ho
            have e55 : ac.tmps.getD 55 undef = .slice (some ⟨sb, 0, none⟩) m sc := hD 13 (zdp (by kernel_rfl)) 55 rfl
            have d55 := zgD e55
            have e57 : ac.tmps.getD 57 undef = .int .i64 ((m : Int) - 1) := hD 15 (zdp (by kernel_rfl)) 57 rfl
            have d57 := zgD e57
            clear hD hF
            go_simp
            exact hK _ _ (Below.refl _ _) rfl
          | 17, _ =>
            intro o ho ac w' hR hF hD K hK
            simp only [zqA, zqZ, zqS, zqI] at ho
            subst ho
            have e58 : ac.tmps.getD 58 undef = .pointer (some ⟨sb, (m1 + 1) * 2, none⟩) := hD 16 (zdp (by kernel_rfl)) 58 rfl
            have d58 := zgD e58
            clear hD hF
            exact step_loadM undPc (RV.out w' hR) rfl rfl 58 rfl e58 (hK _ _ (Below.refl _ _) rfl)
          | 18, _ =>
            intro o ho ac w' hR hF hD K hK
            simp only [zqA, zqZ, zqS, zqI] at ho
            subst ho
            have e8 : ac.tmps.getD 8 undef = .pointer (some ⟨gW, 0, none⟩) := hF 8 (znd (by kernel_rfl))
            have d8 := zgD e8
            clear hD hF
            go_simp
            exact hK _ _ (Below.refl _ _) rfl
          | 19, _ =>
            intro o ho ac w' hR hF hD K hK
            simp only [zqA, zqZ, zqS, zqI] at ho
            subst ho
            have e60 : ac.tmps.getD 60 undef = .pointer (some ⟨gW, 3, none⟩) := hD 18 (zdp (by kernel_rfl)) 60 rfl
            have d60 := zgD e60
            clear hD hF
            have q0 : w'.cell? ⟨gW, 3, none⟩ = some (.int .i64 (rn : Int)) := bcell hR d3
            go_simp
            exact hK _ _ (Below.refl _ _) rfl
          | 20, _ =>
            intro o ho ac w' hR hF hD K hK
            simp only [zqA, zqZ, zqS, zqI] at ho
            subst ho
            have e49 : ac.tmps.getD 49 undef = .string lu := hD 7 (zdp (by kernel_rfl)) 49 rfl
            have d49 := zgD e49
            have e59 : ac.tmps.getD 59 undef = .agg #[.string sv, .int .i64 (bv : Int)] := hD 17 (zdp (by kernel_rfl)) 59 rfl
            have d59 := zgD e59
            have e61 : ac.tmps.getD 61 undef = .int .i64 (rn : Int) := hD 19 (zdp (by kernel_rfl)) 61 rfl
            have d61 := zgD e61
            clear hD hF
            go_simp
            refine (A2.out w').mono ?_
            rintro e w2 ⟨rfl, hb2⟩
            exact hK _ _ hb2 rfl
          | 21, _ =>
            intro o ho ac w' hR hF hD K hK
            simp only [zqA, zqZ, zqS, zqI] at ho
            subst ho
            have e54 : ac.tmps.getD 54 undef = .string (lu ++ (⟨#[32]⟩ : ByteArray) ++ wd ++ (⟨#[32]⟩ : ByteArray)) := hD 12 (zdp (by kernel_rfl)) 54 rfl
            have d54 := zgD e54
            have e62 : ac.tmps.getD 62 undef = .string rv := hD 20 (zdp (by kernel_rfl)) 62 rfl
            have d62 := zgD e62
            clear hD hF
            go_simp
            rw [if_neg (by omega)]
            exact hK _ _ (Below.refl _ _) rfl
          | 22, _ =>
            intro o ho ac w' hR hF hD K hK
            simp only [zqA, zqZ, zqS, zqI] at ho
            subst ho
            have e10 : ac.tmps.getD 10 undef = .pointer (some ⟨gP, 0, none⟩) := hF 10 (znd (by kernel_rfl))
            have d10 := zgD e10
            have e42 : ac.tmps.getD 42 undef = .slice (some ⟨sb, 0, none⟩) m sc := hD 0 (zdp (by kernel_rfl)) 42 rfl
            have d42 := zgD e42
            have e43 : ac.tmps.getD 43 undef = .int .i64 (m : Int) := hD 1 (zdp (by kernel_rfl)) 43 rfl
            have d43 := zgD e43
            have e44 : ac.tmps.getD 44 undef = .int .i64 ((m : Int) - 2) := hD 2 (zdp (by kernel_rfl)) 44 rfl
            have d44 := zgD e44
            have e45 : ac.tmps.getD 45 undef = .pointer (some ⟨sb, m1 * 2, none⟩) := hD 3 (zdp (by kernel_rfl)) 45 rfl
            have d45 := zgD e45
            have e46 : ac.tmps.getD 46 undef = .agg #[.string su, .int .i64 (bu : Int)] := hD 4 (zdp (by kernel_rfl)) 46 rfl
            have d46 := zgD e46
            have e47 : ac.tmps.getD 47 undef = .pointer (some ⟨gW, 2, none⟩) := hD 5 (zdp (by kernel_rfl)) 47 rfl
            have d47 := zgD e47
            have e48 : ac.tmps.getD 48 undef = .int .i64 (ln : Int) := hD 6 (zdp (by kernel_rfl)) 48 rfl
            have d48 := zgD e48
            have e49 : ac.tmps.getD 49 undef = .string lu := hD 7 (zdp (by kernel_rfl)) 49 rfl
            have d49 := zgD e49
            have e50 : ac.tmps.getD 50 undef = .string (lu ++ (⟨#[32]⟩ : ByteArray)) := hD 8 (zdp (by kernel_rfl)) 50 rfl
            have d50 := zgD e50
            have e51 : ac.tmps.getD 51 undef = .pointer (some ⟨gW, 0, none⟩) := hD 9 (zdp (by kernel_rfl)) 51 rfl
            have d51 := zgD e51
            have e52 : ac.tmps.getD 52 undef = .string wd := hD 10 (zdp (by kernel_rfl)) 52 rfl
            have d52 := zgD e52
            have e53 : ac.tmps.getD 53 undef = .string (lu ++ (⟨#[32]⟩ : ByteArray) ++ wd) := hD 11 (zdp (by kernel_rfl)) 53 rfl
            have d53 := zgD e53
            have e54 : ac.tmps.getD 54 undef = .string (lu ++ (⟨#[32]⟩ : ByteArray) ++ wd ++ (⟨#[32]⟩ : ByteArray)) := hD 12 (zdp (by kernel_rfl)) 54 rfl
            have d54 := zgD e54
            have e55 : ac.tmps.getD 55 undef = .slice (some ⟨sb, 0, none⟩) m sc := hD 13 (zdp (by kernel_rfl)) 55 rfl
            have d55 := zgD e55
            have e56 : ac.tmps.getD 56 undef = .int .i64 (m : Int) := hD 14 (zdp (by kernel_rfl)) 56 rfl
            have d56 := zgD e56
            have e57 : ac.tmps.getD 57 undef = .int .i64 ((m : Int) - 1) := hD 15 (zdp (by kernel_rfl)) 57 rfl
            have d57 := zgD e57
            have e58 : ac.tmps.getD 58 undef = .pointer (some ⟨sb, (m1 + 1) * 2, none⟩) := hD 16 (zdp (by kernel_rfl)) 58 rfl
            have d58 := zgD e58
            have e59 : ac.tmps.getD 59 undef = .agg #[.string sv, .int .i64 (bv : Int)] := hD 17 (zdp (by kernel_rfl)) 59 rfl
            have d59 := zgD e59
            have e60 : ac.tmps.getD 60 undef = .pointer (some ⟨gW, 3, none⟩) := hD 18 (zdp (by kernel_rfl)) 60 rfl
            have d60 := zgD e60
            have e61 : ac.tmps.getD 61 undef = .int .i64 (rn : Int) := hD 19 (zdp (by kernel_rfl)) 61 rfl
            have d61 := zgD e61
            have e62 : ac.tmps.getD 62 undef = .string rv := hD 20 (zdp (by kernel_rfl)) 62 rfl
            have d62 := zgD e62
            have e63 : ac.tmps.getD 63 undef = .string (lu ++ (⟨#[32]⟩ : ByteArray) ++ wd ++ (⟨#[32]⟩ : ByteArray) ++ rv) := hD 21 (zdp (by kernel_rfl)) 63 rfl
            have d63 := zgD e63
            clear hD hF
            go_simp
            exact hK _ _ (Below.refl _ _) rfl
          | k + 23, hk => omega
        · rintro ⟨tm, df⟩ w5 hdf hsz hF hR9 hV
          obtain rfl : df = [] := hdf
          obtain ⟨q, rfl⟩ := frame114 tm hsz
          have k63 : q 63 = .string (lu ++ (⟨#[32]⟩ : ByteArray) ++ wd ++ (⟨#[32]⟩ : ByteArray) ++ rv) := hV 21 63 (by decide) rfl
          have k64 : q 64 = .pointer (some ⟨gP, 0, none⟩) := hV 22 64 (by decide) rfl
          simp only [k63, k64]
          clear k63 k64
          have kk := zbk hF [0, 1, 2, 3, 4, 5, 6, 7, 8, 9, 10, 11, 12, 13, 14, 15, 16, 17, 18, 19, 20, 21, 22, 23, 24, 25, 26, 27, 28, 29, 30, 31, 32, 33, 34, 35, 36, 37, 38, 39, 40, 41, 65, 66, 67, 68, 69, 70, 71, 72, 73, 74, 75, 76, 77, 78, 79, 80, 81, 82, 83, 84, 85, 86, 87, 88, 89, 90, 91, 92, 93, 94, 95, 96, 97, 98, 99, 100, 101, 102, 103, 104, 105, 106, 107, 108, 109, 110, 111, 112, 113] (by kernel_rfl)
          simp only [Bk, Array.getD_eq_getD_getElem?, zqA, zqS, zqZ, Option.getD_some] at kk
          simp only [kk]
          clear kk
          clear hF hV hsz
          change wpAny _ _ _ _ 1 _ _ _
          refine wpAny_ready (rs := [23]) (by kernel_rfl) (by simp) ?_
          refine AllReady.cons (i := 23) rfl (fun K hK => ?_) AllReady.nil
          have q5 := Lib.hid (qf.out.below hR9)
          have c5 : w5.cell? ⟨gP, 0, none⟩ = some (.string wd) := q5.out.cell 0
          have f5 := q5.out.free 0
          go_simp
          refine hK _ _ ?_
          clear hK K c5 f5
          refine ⟨by kernel_rfl, ?_⟩
          have z5 := Lib.hid (btrans zf.out hR9)
          have own5 : Hid (OwnR w5 w.heap.size TPc 2 (some ⟨sb, 0, none⟩) m sc (pcs nm (v0 :: u :: S1))) := OwnR.keeps (S := fun _ => False) ownf.out (Keeps.of_below hR9) (fun _ _ h => h)
          have qNX := Lib.hid (qNf.out.below hR9)
          have qWX := Lib.hid (qWf.out.below hR9)
          clear hR9 zf ownf qNf qWf qf c0 c1 d0 d2 d3 p0 pf
          clear wr2 tn1 tn2 ge1 ge2 lt1 lt2 z1s z2s z3s A1 A2 RU RV
          have q6 := Lib.hid (show RowAt (w5.setCell ⟨gP, 0, none⟩ (.string (lu ++ (⟨#[32]⟩ : ByteArray) ++ wd ++ (⟨#[32]⟩ : ByteArray) ++ rv))) gP TPc [.string (lu ++ (⟨#[32]⟩ : ByteArray) ++ wd ++ (⟨#[32]⟩ : ByteArray) ++ rv), .int .i64 bi] from q5.out.set 0 (.string (lu ++ (⟨#[32]⟩ : ByteArray) ++ wd ++ (⟨#[32]⟩ : ByteArray) ++ rv)))
          have k6 : Keeps w5 (w5.setCell ⟨gP, 0, none⟩ (.string (lu ++ (⟨#[32]⟩ : ByteArray) ++ wd ++ (⟨#[32]⟩ : ByteArray) ++ rv))) (fun j => j = gP) := Keeps.set _ _ _ _ rfl
          have z6 := Lib.hid (k6.below z5.out (fun j hj => by cases hj; exact hgPb.out))
          have own6 : Hid (OwnR (w5.setCell ⟨gP, 0, none⟩ (.string (lu ++ (⟨#[32]⟩ : ByteArray) ++ wd ++ (⟨#[32]⟩ : ByteArray) ++ rv))) w.heap.size TPc 2 (some ⟨sb, 0, none⟩) m sc (pcs nm (v0 :: u :: S1))) := OwnR.keeps own5.out k6 (fun j hj e => hneP.out j hj e)
          have qN6 := Lib.hid (qNX.out.keeps k6 hneN.out)
          have qW6 := Lib.hid (qWX.out.keeps k6 hneW.out)
          generalize w5.setCell ⟨gP, 0, none⟩ (.string (lu ++ (⟨#[32]⟩ : ByteArray) ++ wd ++ (⟨#[32]⟩ : ByteArray) ++ rv)) = w6 at q6 z6 own6 qN6 qW6 ⊢
          clear k6 q5 z5 own5
          have RH := fun v => run_cut_h (P := Tryz.prog) (kh := .i64) (H := (m : Int) - 2) Tryz.underlying67 sizePc (some ⟨sb, 0, none⟩) m sc m1 (by have := hm2.out; omega) (by have := (OwnR.caps own6.out).1; have := hm2.out; omega) v
          have own9' : Hid (OwnR w6 w.heap.size TPc 2 (some ⟨sb, 0, none⟩) m1 sc (pcs nm S1)) := by
            have h1 := OwnR.shrink own6.out (m := m1) (by have := hm2.out; omega)
            rw [hm1.out, pcs_take2, ← hm1.out] at h1
            exact h1
          have hm1I : (m1 : Int) ≤ 24 := by have := hm2.out; omega
          obtain ⟨p, hp⟩ : ∃ p : ByteArray, p = lu ++ (⟨#[32]⟩ : ByteArray) ++ wd ++ (⟨#[32]⟩ : ByteArray) ++ rv := ⟨_, rfl⟩
          rw [← hp] at q6 hP ⊢
          replace hp := Lib.hid hp
          go_upto_region 11 with (fail)
          refine wp_region_list ?_
          refine wpList_plain rfl (fun K hK => ?_)
          go_simp
          refine hK _ _ ?_
          clear hK K
          refine wpList_plain rfl (fun K hK => ?_)
          go_simp
          refine hK _ _ ?_
          clear hK K
          refine wpList_plain rfl (fun K hK => ?_)
          go_simp
          refine hK _ _ ?_
          clear hK K
          refine wpList_plain rfl (fun K hK => ?_)
          go_simp
          refine hK _ _ ?_
          clear hK K
          refine wpList_plain rfl (fun K hK => ?_)
          go_simp
          refine hK _ _ ?_
          clear hK K
          refine wpList_nil ?_
          clear own6 RH wr1
          have hmm : m1 + 2 ≤ i := by have := hm2.out; omega
          go_upto_region 17 with (fail)
          refine wp_region_list ?_
          refine wpList_plain rfl (fun K hK => ?_)
          go_simp
          refine hK _ _ ?_
          clear hK K
          refine list_load undPc infoPc q6.out rfl rfl 10 rfl rfl ?_
          rw [show ([.string p, .int .i64 bi] : List Value).toArray = #[.string p, .int .i64 bi] from rfl]
          refine wpList_plain rfl (fun K hK => ?_)
          go_simp
          refine hK _ _ ?_
          clear hK K
          obtain ⟨w7, hw7⟩ : ∃ w7, w7 = w6.alloc (.cells #[.string p, .int .i64 bi] TPc) := ⟨_, rfl⟩
          obtain ⟨g7, hg7⟩ : ∃ g7, g7 = w6.heap.size := ⟨_, rfl⟩
          have r7 : RowAt w7 g7 TPc [.string p, .int .i64 bi] := by rw [hw7]; exact RowAt.new #[.string p, .int .i64 bi] hg7
          have b67 : Below w6.heap.size w6 w7 := by rw [hw7]; exact balloc (Below.refl _ _) _
          rw [← hw7, ← hg7]
          have own7 : OwnR w7 w.heap.size TPc 2 (some ⟨sb, 0, none⟩) m1 sc (pcs nm S1) := OwnR.keeps (S := fun _ => False) own9'.out (Keeps.of_below b67) (fun _ _ h => h)
          have z7 := Lib.hid (btrans z6.out b67)
          replace hw7 := Lib.hid hw7
          replace hg7 := Lib.hid hg7
          refine wp_appR rfl (.tmp 105) (.tmp 107) 67 TPc (.agg #[.string ⟨#[]⟩, .int .i64 0]) 2 24 rfl Tryz.underlying67 infoPc3 rfl (by decide) w.heap.size (some ⟨sb, 0, none⟩) m1 sc (pcs nm S1) rfl own7 g7 1 [.string p, .int .i64 bi] rfl rfl (fun j u hj => by
            have := r7.cell j
            rw [hj] at this
            rw [add_off, Nat.zero_add]
            exact this) pc_one (by unfold maxLen; omega) (by omega) z7.out.size ?_
          intro sa8 sc8 w8 own8 hg8 _
          have z8 := Lib.hid (bgrown z7.out hg8 (fun j hj => (OwnR.lt own7 hj).1))
          have own9 : Hid (OwnR w8 w.heap.size TPc 2 sa8 (m1 + 1) sc8 (pcs nm ((Fm.bin ((k : Int), y) u v0) :: S1))) := by
            show OwnR _ _ _ _ _ _ _ _
            rw [pcs_cons, ← hP.out]
            exact own8
          clear own8 hg8 own7 r7 b67 z7 own9' q6 z6
          refine wpList_plain rfl (fun K hK => ?_)
          go_simp
          refine hK _ _ ?_
          clear hK K
          refine wpList_nil ?_
          have hm9 : Hid (m1 + 1 = ((Fm.bin ((k : Int), y) u v0) :: S1).length) := by show _ = _; rw [List.length_cons, hm1.out]
          have st9 := Lib.hid (st2.out)
          generalize ((Fm.bin ((k : Int), y) u v0) :: S1) = S9 at own9 hm9 st9
          go_wp2
          go_roundw
          case rel => exact ⟨i + 1, S9, sa8, m1 + 1, sc8, rfl, by go_num, by omega, by omega, hm9, st9, own9, z8⟩
          case measure => simp [intOf]; omega
    · have hlI : ¬ (i : Int) < (n : Int) := by omega
      obtain rfl : i = n := by omega
      have hfin := st.out.fin
      rw [hn.out, List.drop_length] at hfin
      have hfin : S = [t0] := hfin
      subst hfin
      have hm1 : m = 1 := hm.out
      subst hm1
      obtain ⟨sb, esa, _, hsb⟩ := OwnR.addr own.out (by decide)
      subst esa
      have p0 : wr.cell? ⟨sb, 0, none⟩ = some (.string ⟨(txt nm t0).toArray⟩) := OwnR.cell own.out 0 (by decide)
      rw [← hres.out] at p0
      clear own hsb hfpos hmi hi
      go_wp2
      go_ret
      exact ⟨rfl, zr.out⟩
end Go.Proofs.YtkehfolcfcbplaaGreatDoor
