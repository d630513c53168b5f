/- The law's bare formula, walked. Conditions: not too many nodes. -/
import Derived.Test.YtkehfolcfcbplaaDoorLtC
namespace Go.Proofs.YtkehfolcfcbplaaDoor
open Go.RowKit
set_option linter.unusedVariables false
set_option linter.unusedSimpArgs false

/-- the head of bare's loop -/
structure BrI (B : Nat) (f : List Nd) (w : World) (i : Nat) (oa : Option Addr) (oc : Nat) : Prop where
  own : OwnR w B TNd 2 oa i oc (pcells ((f.take i).map bareN))
theorem bare_step {f : List Nd} {i : Nat} (hi : i < f.length) : pcells ((f.take i).map bareN) ++ [.int .i64 f[i].1, .int .i64 (if f[i].1 = 3 then f[i].2 else 0)] = pcells ((f.take (i + 1)).map bareN) := by
  rw [List.take_succ_eq_append_getElem hi, List.map_append, List.map_cons, List.map_nil, pcells_snoc]
  rfl
/-- what bare gives -/
def BareV (n : Nat) (f : List Nd) (e : Ending) (w' : World) : Prop := ∃ oa oc, e = .returned (.slice oa n oc) ∧ NdAt w' oa (f.map bareN)
set_option maxRecDepth 8000 in
set_option maxHeartbeats 8000000 in
theorem bare_any (w : World) (a : Option Addr) (c : Nat) (f : List Nd) (hf : NdAt w a f) (hl : f.length ≤ 1000) :
    Calls Tryd.prog 13 #[.slice a f.length c] w fun e w' => BareV f.length f e w' ∧ Below w.heap.size w w' := by
  have S0 : Hid (BrI w.heap.size f w 0 none 0) := ⟨OwnR.nil _ _ _ _⟩
  have ND : Hid (∀ v, Below w.heap.size w v → NdAt v a f) := fun v hb => hf.below hb
  have B0 : Hid (Below w.heap.size w w) := Below.refl _ _
  obtain ⟨n, hn⟩ : ∃ n, n = f.length := ⟨_, rfl⟩
  rw [← hn]
  have hnI : (n : Int) ≤ 1000 := by omega
  replace hn := Lib.hid hn
  clear hf hl
  go_enter Tryd.func13, Tryd.ntmps13
  go_wp2
  go_loopw [3, 4] (fun ov iv wr => ∃ (i : Nat) (oa : Option Addr) (oc : Nat), ov = .slice oa i oc ∧ iv = .int .i64 (i : Int) ∧ i ≤ n ∧ Hid (BrI w.heap.size f wr i oa oc) ∧ Hid (Below w.heap.size w wr)) (fun _ iv _ => n - (intOf iv).toNat)
  case atStart => exact ⟨0, none, 0, rfl, rfl, Nat.zero_le _, S0, B0⟩
  case round =>
    obtain ⟨i, oa, oc, rfl, rfl, hi, br, zr⟩ := hrel
    clear S0 B0
    by_cases hlt : i < n
    · have hlI : (i : Int) < (n : Int) := by omega
      have hif : i < f.length := by have := hn.out; omega
      obtain ⟨b, off, ea, hc⟩ := (ND.out wr zr.out) (by omega)
      have SGN := NdAt.range (hc i hif)
      subst ea
      have ST := bare_step hif
      obtain ⟨xy, hxy⟩ : ∃ xy, xy = f[i] := ⟨_, rfl⟩
      rw [← hxy] at SGN ST
      clear hxy
      obtain ⟨x, y⟩ := xy
      dsimp only at SGN ST
      replace SGN := Lib.hid SGN
      obtain ⟨y', hy'⟩ : ∃ y', y' = if x = 3 then y else 0 := ⟨_, rfl⟩
      rw [← hy'] at ST
      replace ST := Lib.hid ST
      clear hc hif
      go_upto_region 5 with (fail)
      refine wp_region_list ?_
      refine wpList_plain rfl (fun K hK => ?_)
      go_simp
      refine hK _ _ ?_
      clear hK K
      refine wpList_plain rfl (fun K hK => ?_)
      go_simp
      refine hK _ _ ?_
      clear hK K
      refine wpList_plain rfl (fun K hK => ?_)
      go_simp
      refine hK _ _ ?_
      clear hK K
      refine wpList_load_mid rfl TNd (.tmp 14) rfl b (off + i * 2) rfl [.int .i64 x, .int .i64 y] _ SGN.out undNd.choose_spec.1 undNd.choose_spec.2 (by kernel_rfl) ?_
      refine wpList_plain rfl (fun K hK => ?_)
      go_simp
      refine hK _ _ ?_
      clear hK K
      obtain ⟨wa, hwa⟩ : ∃ wa, wa = wr.alloc (.cells #[.int .i64 0, .int .i64 0] TNd) := ⟨_, rfl⟩
      obtain ⟨gN, hgN⟩ : ∃ gN, gN = wr.heap.size := ⟨_, rfl⟩
      have ra : RowAt wa gN TNd [.int .i64 0, .int .i64 0] := by rw [hwa]; exact RowAt.new #[.int .i64 0, .int .i64 0] hgN
      have ba : Below wr.heap.size wr wa := by rw [hwa]; exact balloc (Below.refl _ _) _
      rw [← hwa, ← hgN]
      replace hwa := Lib.hid hwa
      replace hgN := Lib.hid hgN
      refine list_store (l := [.int .i64 x, .int .i64 y]) infoNd ra rfl rfl nd_one rfl 5 15 rfl rfl rfl ?_
      intro wb qb kb
      refine wpList_nil ?_
      have bb : Below wr.heap.size wr wb := kb.below ba (fun j hj => by cases hj; rw [hgN.out]; exact Nat.le_refl _)
      replace bb := Lib.hid bb
      clear kb ba ra SGN
      have c0 : wb.cell? ⟨gN, 0, none⟩ = some (.int .i64 x) := qb.cell 0
      by_cases hx3 : x = 3
      · have hxB : (x != 3) = false := by rw [hx3]; rfl
        rw [if_pos hx3] at hy'
        subst hy'
        clear hx3
        replace qb := Lib.hid qb
        go_upto_region 8 with (fail)
        refine wp_region_list ?_
        refine wpList_plain rfl (fun K hK => ?_)
        go_simp
        refine hK _ _ ?_
        clear hK K
        refine list_load undNd infoNd qb.out rfl rfl 5 rfl rfl ?_
        refine wpList_plain rfl (fun K hK => ?_)
        go_simp
        refine hK _ _ ?_
        clear hK K
        obtain ⟨wd, hwd⟩ : ∃ wd, wd = wb.alloc (.cells #[.int .i64 x, .int .i64 y'] TNd) := ⟨_, rfl⟩
        obtain ⟨gd, hgd⟩ : ∃ gd, gd = wb.heap.size := ⟨_, rfl⟩
        have rd : RowAt wd gd TNd [.int .i64 x, .int .i64 y'] := by rw [hwd]; exact RowAt.new #[.int .i64 x, .int .i64 y'] hgd
        have bd : Below wb.heap.size wb wd := by rw [hwd]; exact balloc (Below.refl _ _) _
        rw [← hwd, ← hgd]
        have bwd : Below wr.heap.size wr wd := bb.out.trans (bd.mono bb.out.size)
        have own7 : OwnR wd w.heap.size TNd 2 oa i oc (pcells ((f.take i).map bareN)) := OwnR.keeps (S := fun _ => False) br.out.own (Keeps.of_below bwd) (fun _ _ e => e)
        have hsz : w.heap.size ≤ wd.heap.size := Nat.le_trans zr.out.size bwd.size
        replace hwd := Lib.hid hwd
        replace hgd := Lib.hid hgd
        refine wp_appR rfl (.tmp 20) (.tmp 22) 22 TNd (.agg #[.int .i64 0, .int .i64 0]) 2 16 rfl Tryd.underlying22 infoNd3 rfl (by decide) w.heap.size oa i oc (pcells ((f.take i).map bareN)) rfl own7 gd 1 [.int .i64 x, .int .i64 y'] rfl rfl (fun j u hj => by
          have := rd.cell j
          rw [hj] at this
          rw [add_off, Nat.zero_add]
          exact this) nd_one (by unfold maxLen; omega) (by omega) hsz ?_
        intro oa8 oc8 w8 own8 hg8 hat8
        have br2 : Hid (BrI w.heap.size f w8 (i + 1) oa8 oc8) := ⟨by rw [← ST.out]; exact own8⟩
        have z8 : Hid (Below w.heap.size w w8) := bgrown (btrans zr.out bwd) hg8 (fun j hj => (OwnR.lt own7 hj).1)
        clear own8 hg8 hat8 own7 bwd bd rd hsz br zr
        refine wpList_plain rfl (fun K hK => ?_)
        go_simp
        refine hK _ _ ?_
        clear hK K
        refine wpList_nil ?_
        go_wp2
        go_roundw
        case rel => exact ⟨i + 1, oa8, oc8, rfl, by go_num, by omega, br2, z8⟩
        case measure => simp [intOf]; omega
      · have hxB : (x != 3) = true := by rw [bne_iff_ne]; exact hx3
        rw [if_neg hx3] at hy'
        subst hy'
        clear hx3
        have f1 := qb.free 1
        have c1 : wb.cell? ⟨gN, 1, none⟩ = some (.int .i64 y) := qb.cell 1
        obtain ⟨wc, hwc⟩ : ∃ wc, wc = wb.setCell ⟨gN, 1, none⟩ (.int .i64 0) := ⟨_, rfl⟩
        have qc : RowAt wc gN TNd [.int .i64 x, .int .i64 0] := by rw [hwc]; exact qb.set 1 _
        have kc : Keeps wb wc (fun j => j = gN) := by rw [hwc]; exact Keeps.set _ _ _ _ rfl
        have bc : Hid (Below wr.heap.size wr wc) := kc.below bb.out (fun j hj => by rw [hj, hgN.out]; exact Nat.le_refl _)
        replace qb := Lib.hid qc
        replace hwc := Lib.hid hwc
        clear kc qc
        go_upto_region 8 with (fail)
        rw [← hwc.out]
        clear c0 c1 f1 bb
        have bb := bc
        clear bc
        clear hwc
        generalize wc = wb at *
        refine wp_region_list ?_
        refine wpList_plain rfl (fun K hK => ?_)
        go_simp
        refine hK _ _ ?_
        clear hK K
        refine list_load undNd infoNd qb.out rfl rfl 5 rfl rfl ?_
        refine wpList_plain rfl (fun K hK => ?_)
        go_simp
        refine hK _ _ ?_
        clear hK K
        obtain ⟨wd, hwd⟩ : ∃ wd, wd = wb.alloc (.cells #[.int .i64 x, .int .i64 0] TNd) := ⟨_, rfl⟩
        obtain ⟨gd, hgd⟩ : ∃ gd, gd = wb.heap.size := ⟨_, rfl⟩
        have rd : RowAt wd gd TNd [.int .i64 x, .int .i64 0] := by rw [hwd]; exact RowAt.new #[.int .i64 x, .int .i64 0] hgd
        have bd : Below wb.heap.size wb wd := by rw [hwd]; exact balloc (Below.refl _ _) _
        rw [← hwd, ← hgd]
        have bwd : Below wr.heap.size wr wd := bb.out.trans (bd.mono bb.out.size)
        have own7 : OwnR wd w.heap.size TNd 2 oa i oc (pcells ((f.take i).map bareN)) := OwnR.keeps (S := fun _ => False) br.out.own (Keeps.of_below bwd) (fun _ _ e => e)
        have hsz : w.heap.size ≤ wd.heap.size := Nat.le_trans zr.out.size bwd.size
        replace hwd := Lib.hid hwd
        replace hgd := Lib.hid hgd
        refine wp_appR rfl (.tmp 20) (.tmp 22) 22 TNd (.agg #[.int .i64 0, .int .i64 0]) 2 16 rfl Tryd.underlying22 infoNd3 rfl (by decide) w.heap.size oa i oc (pcells ((f.take i).map bareN)) rfl own7 gd 1 [.int .i64 x, .int .i64 0] rfl rfl (fun j u hj => by
          have := rd.cell j
          rw [hj] at this
          rw [add_off, Nat.zero_add]
          exact this) nd_one (by unfold maxLen; omega) (by omega) hsz ?_
        intro oa8 oc8 w8 own8 hg8 hat8
        have br2 : Hid (BrI w.heap.size f w8 (i + 1) oa8 oc8) := ⟨by rw [← ST.out]; exact own8⟩
        have z8 : Hid (Below w.heap.size w w8) := bgrown (btrans zr.out bwd) hg8 (fun j hj => (OwnR.lt own7 hj).1)
        clear own8 hg8 hat8 own7 bwd bd rd hsz br zr
        refine wpList_plain rfl (fun K hK => ?_)
        go_simp
        refine hK _ _ ?_
        clear hK K
        refine wpList_nil ?_
        go_wp2
        go_roundw
        case rel => exact ⟨i + 1, oa8, oc8, rfl, by go_num, by omega, br2, z8⟩
        case measure => simp [intOf]; omega
    · have hlI : ¬ (i : Int) < (n : Int) := by omega
      obtain rfl : i = n := by omega
      have ow := br.out.own
      rw [List.take_of_length_le (by have := hn.out; omega)] at ow
      have nd : Hid (NdAt wr oa (f.map bareN)) := NdAt.of_own (base := w.heap.size) (c := oc) (by rw [List.length_map, ← hn.out]; exact ow)
      clear ow
      go_wp2
      go_ret
      exact ⟨⟨oa, oc, rfl, nd.out⟩, zr.out⟩
end Go.Proofs.YtkehfolcfcbplaaDoor
