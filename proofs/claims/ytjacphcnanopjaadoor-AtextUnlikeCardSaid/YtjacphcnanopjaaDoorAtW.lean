/- A node's fields are read, walked: the document's node. Conditions: short texts. -/
import Derived.Test.YtjacphcnanopjaaDoorAtC
namespace Go.Proofs.YtjacphcnanopjaaDoor
open Go.Shelf Go.RowKit
set_option linter.unusedVariables false
set_option linter.unusedSimpArgs false

/-- what node gives -/
def RNodeV (w : World) (o : Option AN) (e : Ending) (w' : World) : Prop := ∃ row : List Value, e = .returned (.tuple #[.agg row.toArray, .bool o.isSome]) ∧ row.length = 4 ∧ (∀ v ∈ row, v.oneCell' = true) ∧ (∀ y, o = some y → ∃ ta tc, row = anV y ta tc ∧ OwnN .i64 w' w.heap.size TInt ta y.to.length tc y.to) ∧ Below w.heap.size w w'
def ndV (y : AN) (v3 : Value) : List Value := [.int .u64 y.need, .int .u64 y.ban, .int .u64 y.inn, v3]
theorem ndV_one (y : AN) {v3 : Value} (h : v3.oneCell' = true) : ∀ v ∈ ndV y v3, v.oneCell' = true := by
  intro v hv
  simp only [ndV, List.mem_cons, List.not_mem_nil, or_false] at hv
  rcases hv with rfl | rfl | rfl | rfl
  · rfl
  · rfl
  · rfl
  · exact h
theorem RNodeV.no {w w' : World} (y : AN) (hb : Below w.heap.size w w') : RNodeV w none (.returned (.tuple #[.agg (ndV y (.slice none 0 0)).toArray, .bool false])) w' :=
  ⟨ndV y (.slice none 0 0), rfl, rfl, ndV_one y rfl, fun z h => (by cases h), hb⟩
theorem node_step (y : AN) (f : List UInt8) (r : List (List UInt8)) : (f = [116, 111] → nodeP y (f :: r) = match numsP r with
    | none => none
    | some l => some ⟨y.need, y.ban, y.inn, l⟩) ∧ (f ≠ [116, 111] → (markP y f = none → nodeP y (f :: r) = none) ∧ ∀ z, markP y f = some z → nodeP y (f :: r) = nodeP z r) := by
  refine ⟨fun h => ?_, fun h => ⟨fun hn => ?_, fun z hz => ?_⟩⟩
  · rw [nodeP, if_pos h]
    cases numsP r <;> rfl
  · rw [nodeP, if_neg h, hn]
  · rw [nodeP, if_neg h, hz]
theorem results_ct2 {fn : Func} {P : Program} {tmps : Array Value} {w : World} {a b t : Nat} (hf : fn.results = #[.cell a t, .tmp b]) {g1 : Nat} {v1 v2 : Value} (ha : tmps.getD a undef = .pointer (some ⟨g1, 0, none⟩)) (hb : tmps.getD b undef = v2) (h1 : (loadVar t ⟨g1, 0, none⟩).run P w = .ok v1 w) : (results fn tmps).run P w = .ok (.tuple #[v1, v2]) w := results_ct hf ha hb h1
set_option maxRecDepth 12000 in
set_option maxHeartbeats 16000000 in
theorem rnode_any (w : World) (hd : Door w) (la : Option Addr) (lc : Nat) (L : List (List UInt8)) (hL : StrsAt w la L) (hc : L.length ≤ lc) (hl : L.length ≤ 1000000) (hs : ∀ f ∈ L, f.length ≤ 1000000) :
    Calls Tryd.prog 29 #[.slice la L.length lc] w fun e w' => RNodeV w (nodeP ⟨0, 0, 0, []⟩ L) e w' := by
  obtain ⟨o, ho⟩ : ∃ o, o = nodeP ⟨0, 0, 0, []⟩ L := ⟨_, rfl⟩
  rw [← ho]
  have NUM : Hid (∀ v, Below w.heap.size w v → ∀ j, Calls Tryd.prog 28 #[.slice (cutA la lc (j + 1) 1) (L.length - (j + 1)) (lc - (j + 1))] v (NumsV v (numsP (L.drop (j + 1))))) := fun v hb j => by
    have h1 := rnumbers_any v (hd.below hb) (cutA la lc (j + 1) 1) (lc - (j + 1)) (L.drop (j + 1)) ((hL.below hb).cut hc) (by rw [List.length_drop]; omega) (fun f hf => hs f (List.mem_of_mem_drop hf))
    rw [List.length_drop] at h1
    exact h1
  have ONE : Hid (∀ v (f : List UInt8), f ∈ L → ∀ q : ByteArray, q.data.toList = f.tail → Calls Tryd.prog 49 #[.string q] v fun e w' => e = .returned (.tuple #[.int .i64 (numP f.tail).1, .bool (numP f.tail).2]) ∧ Below v.heap.size v w') := fun v f hf q hq => by
    have h1 := rnumber_any v q (by rw [size_data, hq, List.length_tail]; have := hs f hf; omega)
    rw [hq, ← num_same] at h1
    exact h1
  obtain ⟨n, hn⟩ : ∃ n, n = L.length := ⟨_, rfl⟩
  rw [← hn] at NUM ⊢
  have hnI : (n : Int) ≤ 1000000 := by omega
  obtain ⟨g2, hg2⟩ : ∃ g, g = w.heap.size := ⟨_, rfl⟩
  obtain ⟨w1, hw1⟩ : ∃ w1, w1 = w.alloc (.cells #[.int .u64 0, .int .u64 0, .int .u64 0, .slice none 0 0] TAn) := ⟨_, rfl⟩
  have r1 : RowAt w1 g2 TAn [.int .u64 0, .int .u64 0, .int .u64 0, .slice none 0 0] := by rw [hw1]; exact RowAt.new #[.int .u64 0, .int .u64 0, .int .u64 0, .slice none 0 0] hg2
  have B1 : Below w.heap.size w w1 := by rw [hw1]; exact balloc (Below.refl _ _) _
  have LL := Lib.hid hL
  replace B1 := Lib.hid B1
  replace hw1 := Lib.hid hw1
  replace hg2 := Lib.hid hg2
  replace r1 := Lib.hid r1
  have hn0 := Lib.hid hn
  have hcn : n ≤ lc := by omega
  have hcI : (n : Int) ≤ (lc : Int) := by omega
  have hoo := Lib.hid ho
  clear hL hc hl hn ho hs hd
  go_enter Tryd.func29, Tryd.ntmps29
  go_upto_region 1 with (fail)
  rw [← hw1.out, ← hg2.out]
  refine wp_region_list ?_
  refine wpList_plain rfl (fun K hK => ?_)
  go_simp
  refine hK _ _ ?_
  clear hK K
  refine wpList_plain rfl (fun K hK => ?_)
  go_simp
  refine hK _ _ ?_
  clear hK K
  obtain ⟨w2, hw2⟩ : ∃ w2, w2 = w1.alloc (.cells #[.int .u64 0, .int .u64 0, .int .u64 0, .slice none 0 0] TAn) := ⟨_, rfl⟩
  obtain ⟨gx, hgx⟩ : ∃ g, g = w1.heap.size := ⟨_, rfl⟩
  have r2 : RowAt w2 gx TAn [.int .u64 0, .int .u64 0, .int .u64 0, .slice none 0 0] := by rw [hw2]; exact RowAt.new #[.int .u64 0, .int .u64 0, .int .u64 0, .slice none 0 0] hgx
  have b2 : Below w1.heap.size w1 w2 := by rw [hw2]; exact balloc (Below.refl _ _) _
  rw [← hw2, ← hgx]
  refine list_store (l := [.int .u64 0, .int .u64 0, .int .u64 0, .slice none 0 0]) infoAn r2 rfl rfl (ndV_one ⟨0, 0, 0, []⟩ rfl) rfl 4 11 rfl rfl rfl ?_
  intro w3 q3 k3
  refine wpList_nil ?_
  have hgg : Hid (w.heap.size ≤ g2 ∧ g2 < gx) := ⟨by rw [hg2.out]; exact Nat.le_refl _, by have := r1.out.lt; omega⟩
  have B3 : Hid (Below w.heap.size w w3) := k3.below (btrans B1.out b2) (fun j hj => by rw [hj, hgx]; exact B1.out.size)
  have R3 : Hid (RowAt w3 g2 TAn (ndV ⟨0, 0, 0, []⟩ (.slice none 0 0))) := RowAt.keeps (r1.out.below b2) k3 (by have := hgg.out; omega)
  have M3 : Hid (∃ y, nodeP ⟨0, 0, 0, []⟩ L = nodeP y (L.drop 0) ∧ NdO w3 gx y) := ⟨⟨0, 0, 0, []⟩, by rw [List.drop_zero], q3, by unfold u64ok; decide, by unfold u64ok; decide, by unfold u64ok; decide⟩
  replace hw2 := Lib.hid hw2
  replace hgx := Lib.hid hgx
  clear r2 b2 q3 k3 B1 r1
  go_wp2
  go_loopw [3, 5] (fun av iv wr => ∃ j : Nat, av = .bool false ∧ iv = .int .i64 (j : Int) ∧ j ≤ n ∧ Hid (∃ y, nodeP ⟨0, 0, 0, []⟩ L = nodeP y (L.drop j) ∧ NdO wr gx y) ∧ Hid (RowAt wr g2 TAn (ndV ⟨0, 0, 0, []⟩ (.slice none 0 0))) ∧ Hid (Below w.heap.size w wr)) (fun _ iv _ => n - (intOf iv).toNat)
  case atStart => exact ⟨0, rfl, rfl, Nat.zero_le _, M3, R3, B3⟩
  case round =>
    obtain ⟨j, rfl, rfl, hj, M, R, Z⟩ := hrel
    clear M3 R3 B3
    obtain ⟨y, hy1, hy2⟩ := M.out
    rw [← hoo.out] at hy1
    by_cases hlt : j < n
    · have hlI : (j : Int) < (n : Int) := by omega
      have hjL : j < L.length := by have := hn0.out; omega
      obtain ⟨b, off, ea, hcell⟩ := LL.out.below Z.out (by omega)
      have c1 := hcell j hjL
      subst ea
      rw [List.drop_eq_getElem_cons hjL] at hy1
      obtain ⟨ns1, ns2⟩ := node_step y L[j] (L.drop (j + 1))
      have OC := fun v => ONE.out v (L[j]'hjL) (List.getElem_mem hjL)
      have NC := fun v hb => NUM.out v hb j
      obtain ⟨f, hf⟩ : ∃ f, f = L[j] := ⟨_, rfl⟩
      rw [← hf] at c1 hy1 ns1 ns2 OC
      obtain ⟨q, hq⟩ : ∃ q : ByteArray, q = ⟨f.toArray⟩ := ⟨_, rfl⟩
      have hqd : q.data.toList = f := by rw [hq]
      rw [← hq] at c1
      replace hq := Lib.hid hq
      clear hcell NUM ONE hf M
      by_cases hto : f = [116, 111]
      · have hqs : q = ⟨#[116, 111]⟩ := take_eta (hqd.trans hto)
        subst hqs
        rw [ns1 hto] at hy1
        generalize hnm : numsP (L.drop (j + 1)) = nm at hy1 NC
        have RC := fun v => run_cut_l (P := Tryd.prog) (kl := .i64) (L := (j : Int) + 1) Tryd.underlying41 Tryd.sizeStr (some ⟨b, off, none⟩) n lc (j + 1) rfl (by omega) v
        have N5 := Lib.hid (NC wr Z.out)
        have hy3 := Lib.hid hy1
        have qy := Lib.hid hy2.1
        clear ns1 ns2 OC NC hq hqd hto hy1 hy2 hjL hnm
        go_wp2_with fail
        refine N5.out.mono ?_
        rintro e w5 hnm
        obtain ⟨oa, on, oc, bb, rfl, hb5, hway⟩ := hnm.any2
        clear hnm N5 RC
        have q5 := qy.out.below hb5
        have c3 : w5.cell? ⟨gx, 3, none⟩ = some (.slice none 0 0) := q5.cell 3
        have f3 := q5.free 3
        have B5 := btrans Z.out hb5
        have R5 := R.out.below hb5
        replace hway := Lib.hid hway
        replace B5 := Lib.hid B5
        replace R5 := Lib.hid R5
        replace q5 := Lib.hid q5
        replace hb5 := Lib.hid hb5
        clear R qy
        go_upto_region 8 with (fail)
        have q6 := q5.out.set 3 (.slice oa on oc)
        have k6 : Keeps w5 (w5.setCell ⟨gx, 3, none⟩ (.slice oa on oc)) (fun j => j = gx) := Keeps.set _ _ _ _ rfl
        generalize w5.setCell ⟨gx, 3, none⟩ (.slice oa on oc) = w6 at q6 k6 ⊢
        have q6' : RowAt w6 gx TAn (ndV y (.slice oa on oc)) := q6
        have R6 : RowAt w6 g2 TAn (ndV ⟨0, 0, 0, []⟩ (.slice none 0 0)) := RowAt.keeps R5.out k6 (by have := hgg.out; omega)
        refine wp_region_list ?_
        refine list_load undAn infoAn q6' rfl rfl 4 rfl rfl ?_
        refine wpList_plain rfl (fun K hK => ?_)
        go_simp
        refine hK _ _ ?_
        clear hK K
        refine list_store (l := ndV y (.slice oa on oc)) infoAn R6 rfl rfl (ndV_one y rfl) rfl 2 33 rfl rfl rfl ?_
        intro w7 q7 k7
        have fin : Hid (RNodeV w o (.returned (.tuple #[.agg (ndV y (.slice oa on oc)).toArray, .bool bb])) w7) := by
          have B6 : Below w.heap.size w w6 := k6.below B5.out (fun j hj => by rw [hj]; have := hgg.out; omega)
          have B7 : Below w.heap.size w w7 := k7.below B6 (fun j hj => by rw [hj]; exact hgg.out.1)
          rcases hway.out with ⟨hn, hb⟩ | ⟨xs, hn, hb, hon, hxs⟩
          · subst hb
            have e : o = none := by rw [hy3.out, hn]
            rw [e]
            exact ⟨ndV y (.slice oa on oc), rfl, rfl, ndV_one y rfl, fun z h => (by cases h), B7⟩
          · subst hb
            have e : o = some ⟨y.need, y.ban, y.inn, xs⟩ := by rw [hy3.out, hn]
            rw [e]
            refine ⟨ndV y (.slice oa on oc), rfl, rfl, ndV_one y rfl, fun z h => ?_, B7⟩
            injection h with h
            subst h
            have hx1 : OwnN .i64 w5 w.heap.size TInt oa xs.length oc xs := by rw [← hon]; exact OwnR.lowB hxs Z.out.size
            have tm6 : Tame TAn 0 w5 w6 := Tame.box k6 (Nat.zero_le _) q5.out
            have tm7 : Tame TAn 0 w6 w7 := Tame.box k7 (Nat.zero_le _) R6
            exact ⟨oa, oc, by rw [hon]; rfl, (hx1.tame tm6 (by decide)).tame tm7 (by decide)⟩
        have q7' := Lib.hid q7
        clear q6 q6' k6 R6 q7 k7 hway hy3 c3 f3
        refine wpList_plain rfl (fun K hK => ?_)
        go_simp
        refine hK _ _ ?_
        clear hK K
        refine wpList_nil ?_
        go_wp2
        refine bodyPost_ret (v := .tuple #[.agg (ndV y (.slice oa on oc)).toArray, .bool bb]) (results_ct (a := 2) (b := 3) (by kernel_rfl) rfl rfl (loadVar_whole undAn infoAn q7'.out rfl)) rfl ?_
        exact fin.out
      · have hqs : ¬ q = ⟨#[116, 111]⟩ := fun e => hto (by rw [← hqd, e])
        have hqB : (q.toList == [116, 111]) = false := by
          rw [beq_eq_false_iff_ne]
          intro e
          rw [ByteArray.toList_eq] at e
          exact hto (by rw [← hqd, e])
        obtain ⟨nn1, nn2⟩ := ns2 hto
        clear ns1 ns2 NC hqs hto
        cases hfl : f with
        | nil =>
          have he : q = ⟨#[]⟩ := take_eta (hqd.trans hfl)
          rw [hfl] at nn1
          rw [hfl, nn1 rfl] at hy1
          subst he
          subst hy1
          clear nn1 nn2 OC hqd hjL
          go_upto_region 10 with (fail)
          refine wp_region_list ?_
          refine list_load undAn infoAn (l := ndV y (.slice none 0 0)) hy2.1 rfl rfl 4 rfl rfl ?_
          refine list_store (l := ndV y (.slice none 0 0)) infoAn R.out rfl rfl (ndV_one y rfl) rfl 2 40 rfl rfl rfl ?_
          intro w7 q7 k7
          have fin : Hid (RNodeV w none (.returned (.tuple #[.agg (ndV y (.slice none 0 0)).toArray, .bool false])) w7) := RNodeV.no y (k7.below Z.out (fun j hj => by rw [hj]; exact hgg.out.1))
          have q7' := Lib.hid q7
          clear q7 k7 R Z
          refine wpList_plain rfl (fun K hK => ?_)
          go_simp
          refine hK _ _ ?_
          clear hK K
          refine wpList_nil ?_
          go_wp2
          refine bodyPost_ret (v := .tuple #[.agg (ndV y (.slice none 0 0)).toArray, .bool false]) (results_ct (a := 2) (b := 3) (by kernel_rfl) rfl rfl (loadVar_whole undAn infoAn q7'.out rfl)) rfl ?_
          exact fin.out
        | cons c r =>
          have hsz : q.size = r.length + 1 := by rw [size_data, hqd, hfl]; rfl
          have hnL : ¬ q.toList = [] := fun e => by rw [ByteArray.toList_eq, hqd, hfl] at e; cases e
          have hnE : q.toList.isEmpty = false := by
            cases h : q.toList with
            | nil => exact absurd h hnL
            | cons a b => rfl
          have hsI : (1 : Int) ≤ (q.size : Int) := by omega
          have hs1 : 1 ≤ q.size := by omega
          have C := OC wr (q.extract 1 q.size) (by rw [drop_str, hqd, hfl]; rfl)
          rw [hfl] at C
          rw [show (c :: r).tail = r from rfl] at C
          have p1 : q.extract 0 1 = ⟨#[c]⟩ := take_eta (by rw [mid_str, hqd, hfl]; rfl)
          obtain ⟨q1, hq1⟩ : ∃ q1 : ByteArray, q1 = q.extract 1 q.size := ⟨_, rfl⟩
          rw [← hq1] at C
          rw [hfl] at nn1 nn2 hy1
          have MK : markP y (c :: r) = match numN r with
              | none => none
              | some n => if 63 < n then none else if c = 43 then some ⟨y.need ||| 1 <<< n.toNat, y.ban, y.inn, y.to⟩ else if c = 45 then some ⟨y.need, y.ban ||| 1 <<< n.toNat, y.inn, y.to⟩ else if c = 64 then some ⟨y.need, y.ban, y.inn ||| 1 <<< n.toNat, y.to⟩ else none := rfl
          have NB := numN_bool r
          generalize numP r = nb at C NB
          obtain ⟨v, bb⟩ := nb
          dsimp only at C NB
          replace C := Lib.hid C
          rcases NB with ⟨hnn, hb⟩ | ⟨hnn, hb⟩
          · rw [hnn] at MK
            rw [nn1 MK] at hy1
            subst hy1
            cases bb with
            | false =>
              clear nn1 nn2 MK hb hnn hfl hsz hnL p1 OC hqd hjL
              go_wp2_with fail
              rw [← hq1]
              refine C.out.mono ?_
              rintro e w5 ⟨rfl, hb5⟩
              have QY5 := hy2.1.below hb5
              have R5 := R.out.below hb5
              have Z5 := btrans Z.out hb5
              replace QY5 := Lib.hid QY5
              replace R5 := Lib.hid R5
              replace Z5 := Lib.hid Z5
              clear hb5 C
              go_upto_region 13 with (fail)
              refine wp_region_list ?_
              refine list_load undAn infoAn (l := ndV y (.slice none 0 0)) QY5.out rfl rfl 4 rfl rfl ?_
              refine list_store (l := ndV y (.slice none 0 0)) infoAn R5.out rfl rfl (ndV_one y rfl) rfl 2 60 rfl rfl rfl ?_
              intro w7 q7 k7
              have fin : Hid (RNodeV w none (.returned (.tuple #[.agg (ndV y (.slice none 0 0)).toArray, .bool false])) w7) := RNodeV.no y (k7.below Z5.out (fun j hj => by rw [hj]; exact hgg.out.1))
              have q7' := Lib.hid q7
              clear q7 k7 R5 Z5 QY5
              refine wpList_plain rfl (fun K hK => ?_)
              go_simp
              refine hK _ _ ?_
              clear hK K
              refine wpList_nil ?_
              go_wp2
              refine bodyPost_ret (v := .tuple #[.agg (ndV y (.slice none 0 0)).toArray, .bool false]) (results_ct (a := 2) (b := 3) (by kernel_rfl) rfl rfl (loadVar_whole undAn infoAn q7'.out rfl)) rfl ?_
              exact fin.out
            | true =>
              have hv : v < 0 := by
                rw [Bool.true_and, decide_eq_false_iff_not] at hb
                omega
              have hvB : decide (v < 0) = true := decide_eq_true hv
              clear nn1 nn2 MK hb hnn hfl hsz hnL p1 OC hqd hjL
              go_wp2_with fail
              rw [← hq1]
              refine C.out.mono ?_
              rintro e w5 ⟨rfl, hb5⟩
              have QY5 := hy2.1.below hb5
              have R5 := R.out.below hb5
              have Z5 := btrans Z.out hb5
              replace QY5 := Lib.hid QY5
              replace R5 := Lib.hid R5
              replace Z5 := Lib.hid Z5
              clear hb5 C
              go_upto_region 13 with (fail)
              refine wp_region_list ?_
              refine list_load undAn infoAn (l := ndV y (.slice none 0 0)) QY5.out rfl rfl 4 rfl rfl ?_
              refine list_store (l := ndV y (.slice none 0 0)) infoAn R5.out rfl rfl (ndV_one y rfl) rfl 2 60 rfl rfl rfl ?_
              intro w7 q7 k7
              have fin : Hid (RNodeV w none (.returned (.tuple #[.agg (ndV y (.slice none 0 0)).toArray, .bool false])) w7) := RNodeV.no y (k7.below Z5.out (fun j hj => by rw [hj]; exact hgg.out.1))
              have q7' := Lib.hid q7
              clear q7 k7 R5 Z5 QY5
              refine wpList_plain rfl (fun K hK => ?_)
              go_simp
              refine hK _ _ ?_
              clear hK K
              refine wpList_nil ?_
              go_wp2
              refine bodyPost_ret (v := .tuple #[.agg (ndV y (.slice none 0 0)).toArray, .bool false]) (results_ct (a := 2) (b := 3) (by kernel_rfl) rfl rfl (loadVar_whole undAn infoAn q7'.out rfl)) rfl ?_
              exact fin.out
          · have hb2 := hb
            rw [Bool.and_eq_true, decide_eq_true_iff] at hb2
            obtain ⟨rfl, hv0⟩ := hb2
            obtain ⟨k, rfl⟩ : ∃ k : Nat, v = (k : Int) := ⟨v.toNat, by omega⟩
            have hkv : ¬ (k : Int) < 0 := by omega
            rw [hnn] at MK
            dsimp only at MK
            by_cases hk : 63 < k
            · have hkI : (63 : Int) < (k : Int) := by omega
              have hkB : decide (63 < k) = true := decide_eq_true hk
              rw [if_pos hkI] at MK
              rw [nn1 MK] at hy1
              subst hy1
              clear nn1 nn2 MK hb hnn hfl hsz hnL p1 hv0 hk OC hqd hjL
              go_wp2_with fail
              rw [← hq1]
              refine C.out.mono ?_
              rintro e w5 ⟨rfl, hb5⟩
              have QY5 := hy2.1.below hb5
              have R5 := R.out.below hb5
              have Z5 := btrans Z.out hb5
              replace QY5 := Lib.hid QY5
              replace R5 := Lib.hid R5
              replace Z5 := Lib.hid Z5
              clear hb5 C
              go_upto_region 13 with (fail)
              refine wp_region_list ?_
              refine list_load undAn infoAn (l := ndV y (.slice none 0 0)) QY5.out rfl rfl 4 rfl rfl ?_
              refine list_store (l := ndV y (.slice none 0 0)) infoAn R5.out rfl rfl (ndV_one y rfl) rfl 2 60 rfl rfl rfl ?_
              intro w7 q7 k7
              have fin : Hid (RNodeV w none (.returned (.tuple #[.agg (ndV y (.slice none 0 0)).toArray, .bool false])) w7) := RNodeV.no y (k7.below Z5.out (fun j hj => by rw [hj]; exact hgg.out.1))
              have q7' := Lib.hid q7
              clear q7 k7 R5 Z5 QY5
              refine wpList_plain rfl (fun K hK => ?_)
              go_simp
              refine hK _ _ ?_
              clear hK K
              refine wpList_nil ?_
              go_wp2
              refine bodyPost_ret (v := .tuple #[.agg (ndV y (.slice none 0 0)).toArray, .bool false]) (results_ct (a := 2) (b := 3) (by kernel_rfl) rfl rfl (loadVar_whole undAn infoAn q7'.out rfl)) rfl ?_
              exact fin.out
            · have hkI : ¬ (63 : Int) < (k : Int) := by omega
              have hkB : decide (63 < k) = false := decide_eq_false hk
              have hk2 : (k : Int) ≤ 63 := by omega
              rw [if_neg hkI] at MK
              have KW := shl_wrap k (by omega)
              have KK : IntKind.u64.wrap (k : Int) = (k : Int) := by
                simp [IntKind.wrap, IntKind.bits, IntKind.signed]
                omega
              have KO : Hid (∀ u, u64ok u → bits .or .u64 (u : Int) (2 ^ k) = ((u ||| 1 <<< k : Nat) : Int)) := fun u hu => shl_or u k hu (by omega)
              by_cases c43 : c = 43
              · subst c43
                rw [if_pos rfl] at MK
                rw [nn2 _ MK] at hy1
                have BO := KO.out y.need hy2.2.1
                have okz := (mark_some MK hy2.2).1
                clear nn1 nn2 MK hb hnn hfl hsz hnL hv0 hk KO OC hqd hjL
                go_wp2_with fail
                rw [← hq1]
                refine C.out.mono ?_
                rintro e w5 ⟨rfl, hb5⟩
                have QY5 := hy2.1.below hb5
                have R5 := R.out.below hb5
                have Z5 := btrans Z.out hb5

                have c0 : w5.cell? ⟨gx, 0, none⟩ = some (.int .u64 (y.need : Int)) := QY5.cell 0
                have ff0 := QY5.free 0
                have c1' := bcell hb5 c1
                have q6 := QY5.set 0 (.int .u64 ((y.need ||| 1 <<< k : Nat) : Int))
                have k6 : Keeps w5 (w5.setCell ⟨gx, 0, none⟩ (.int .u64 ((y.need ||| 1 <<< k : Nat) : Int))) (fun j => j = gx) := Keeps.set _ _ _ _ rfl
                have M6 : Hid (∃ y', nodeP ⟨0, 0, 0, []⟩ L = nodeP y' (L.drop (j + 1)) ∧ NdO (w5.setCell ⟨gx, 0, none⟩ (.int .u64 ((y.need ||| 1 <<< k : Nat) : Int))) gx y') := ⟨⟨y.need ||| 1 <<< k, y.ban, y.inn, y.to⟩, by rw [← hoo.out, hy1]; rfl, q6, okz⟩
                have R6 : Hid (RowAt (w5.setCell ⟨gx, 0, none⟩ (.int .u64 ((y.need ||| 1 <<< k : Nat) : Int))) g2 TAn (ndV ⟨0, 0, 0, []⟩ (.slice none 0 0))) := RowAt.keeps R5 k6 (by have := hgg.out; omega)
                have Z6 : Hid (Below w.heap.size w (w5.setCell ⟨gx, 0, none⟩ (.int .u64 ((y.need ||| 1 <<< k : Nat) : Int)))) := k6.below Z5 (fun j hj => by rw [hj]; have := hgg.out; omega)
                clear k6 q6 QY5 R5 Z5 hb5 C R Z hy1 hy2 okz
                go_wp2
                go_roundw
                case rel => exact ⟨j + 1, rfl, by go_num, by omega, M6, R6, Z6⟩
                case measure => simp [intOf]; omega
              · rw [if_neg c43] at MK
                have x43 : ¬ (⟨#[c]⟩ : ByteArray) = ⟨#[43]⟩ := fun e => c43 (by have := (str_eq [c] ⟨#[43]⟩).1 e; injection this)
                have z43 : (c == 43) = false := by rw [beq_eq_false_iff_ne]; exact c43
                have y43 : ((⟨#[c]⟩ : ByteArray).toList == [43]) = false := by
                  rw [beq_eq_false_iff_ne]
                  intro e
                  rw [ByteArray.toList_eq] at e
                  exact c43 (by injection e)
                by_cases c45 : c = 45
                · subst c45
                  rw [if_pos rfl] at MK
                  rw [nn2 _ MK] at hy1
                  have BO := KO.out y.ban hy2.2.2.1
                  have okz := (mark_some MK hy2.2).1
                  clear nn1 nn2 MK hb hnn hfl hsz hnL hv0 hk KO OC hqd hjL c43 x43
                  go_wp2_with fail
                  rw [← hq1]
                  refine C.out.mono ?_
                  rintro e w5 ⟨rfl, hb5⟩
                  have QY5 := hy2.1.below hb5
                  have R5 := R.out.below hb5
                  have Z5 := btrans Z.out hb5

                  have c0 : w5.cell? ⟨gx, 1, none⟩ = some (.int .u64 (y.ban : Int)) := QY5.cell 1
                  have ff0 := QY5.free 1
                  have c1' := bcell hb5 c1
                  have q6 := QY5.set 1 (.int .u64 ((y.ban ||| 1 <<< k : Nat) : Int))
                  have k6 : Keeps w5 (w5.setCell ⟨gx, 1, none⟩ (.int .u64 ((y.ban ||| 1 <<< k : Nat) : Int))) (fun j => j = gx) := Keeps.set _ _ _ _ rfl
                  have M6 : Hid (∃ y', nodeP ⟨0, 0, 0, []⟩ L = nodeP y' (L.drop (j + 1)) ∧ NdO (w5.setCell ⟨gx, 1, none⟩ (.int .u64 ((y.ban ||| 1 <<< k : Nat) : Int))) gx y') := ⟨⟨y.need, y.ban ||| 1 <<< k, y.inn, y.to⟩, by rw [← hoo.out, hy1]; rfl, q6, okz⟩
                  have R6 : Hid (RowAt (w5.setCell ⟨gx, 1, none⟩ (.int .u64 ((y.ban ||| 1 <<< k : Nat) : Int))) g2 TAn (ndV ⟨0, 0, 0, []⟩ (.slice none 0 0))) := RowAt.keeps R5 k6 (by have := hgg.out; omega)
                  have Z6 : Hid (Below w.heap.size w (w5.setCell ⟨gx, 1, none⟩ (.int .u64 ((y.ban ||| 1 <<< k : Nat) : Int)))) := k6.below Z5 (fun j hj => by rw [hj]; have := hgg.out; omega)
                  clear k6 q6 QY5 R5 Z5 hb5 C R Z hy1 hy2 okz
                  go_wp2
                  go_roundw
                  case rel => exact ⟨j + 1, rfl, by go_num, by omega, M6, R6, Z6⟩
                  case measure => simp [intOf]; omega
                · rw [if_neg c45] at MK
                  have x45 : ¬ (⟨#[c]⟩ : ByteArray) = ⟨#[45]⟩ := fun e => c45 (by have := (str_eq [c] ⟨#[45]⟩).1 e; injection this)
                  have z45 : (c == 45) = false := by rw [beq_eq_false_iff_ne]; exact c45
                  have y45 : ((⟨#[c]⟩ : ByteArray).toList == [45]) = false := by
                    rw [beq_eq_false_iff_ne]
                    intro e
                    rw [ByteArray.toList_eq] at e
                    exact c45 (by injection e)
                  by_cases c64 : c = 64
                  · subst c64
                    rw [if_pos rfl] at MK
                    rw [nn2 _ MK] at hy1
                    have BO := KO.out y.inn hy2.2.2.2
                    have okz := (mark_some MK hy2.2).1
                    clear nn1 nn2 MK hb hnn hfl hsz hnL hv0 hk KO OC hqd hjL c43 x43 c45 x45
                    go_wp2_with fail
                    rw [← hq1]
                    refine C.out.mono ?_
                    rintro e w5 ⟨rfl, hb5⟩
                    have QY5 := hy2.1.below hb5
                    have R5 := R.out.below hb5
                    have Z5 := btrans Z.out hb5

                    have c0 : w5.cell? ⟨gx, 2, none⟩ = some (.int .u64 (y.inn : Int)) := QY5.cell 2
                    have ff0 := QY5.free 2
                    have c1' := bcell hb5 c1
                    have q6 := QY5.set 2 (.int .u64 ((y.inn ||| 1 <<< k : Nat) : Int))
                    have k6 : Keeps w5 (w5.setCell ⟨gx, 2, none⟩ (.int .u64 ((y.inn ||| 1 <<< k : Nat) : Int))) (fun j => j = gx) := Keeps.set _ _ _ _ rfl
                    have M6 : Hid (∃ y', nodeP ⟨0, 0, 0, []⟩ L = nodeP y' (L.drop (j + 1)) ∧ NdO (w5.setCell ⟨gx, 2, none⟩ (.int .u64 ((y.inn ||| 1 <<< k : Nat) : Int))) gx y') := ⟨⟨y.need, y.ban, y.inn ||| 1 <<< k, y.to⟩, by rw [← hoo.out, hy1]; rfl, q6, okz⟩
                    have R6 : Hid (RowAt (w5.setCell ⟨gx, 2, none⟩ (.int .u64 ((y.inn ||| 1 <<< k : Nat) : Int))) g2 TAn (ndV ⟨0, 0, 0, []⟩ (.slice none 0 0))) := RowAt.keeps R5 k6 (by have := hgg.out; omega)
                    have Z6 : Hid (Below w.heap.size w (w5.setCell ⟨gx, 2, none⟩ (.int .u64 ((y.inn ||| 1 <<< k : Nat) : Int)))) := k6.below Z5 (fun j hj => by rw [hj]; have := hgg.out; omega)
                    clear k6 q6 QY5 R5 Z5 hb5 C R Z hy1 hy2 okz
                    go_wp2
                    go_roundw
                    case rel => exact ⟨j + 1, rfl, by go_num, by omega, M6, R6, Z6⟩
                    case measure => simp [intOf]; omega
                  · rw [if_neg c64] at MK
                    have x64 : ¬ (⟨#[c]⟩ : ByteArray) = ⟨#[64]⟩ := fun e => c64 (by have := (str_eq [c] ⟨#[64]⟩).1 e; injection this)
                    have z64 : (c == 64) = false := by rw [beq_eq_false_iff_ne]; exact c64
                    have y64 : ((⟨#[c]⟩ : ByteArray).toList == [64]) = false := by
                      rw [beq_eq_false_iff_ne]
                      intro e
                      rw [ByteArray.toList_eq] at e
                      exact c64 (by injection e)
                    rw [nn1 MK] at hy1
                    subst hy1
                    clear nn1 nn2 MK hb hnn hfl hsz hnL hv0 hk KO OC hqd hjL c43 x43 c45 x45 c64 x64
                    go_wp2_with fail
                    rw [← hq1]
                    refine C.out.mono ?_
                    rintro e w5 ⟨rfl, hb5⟩
                    have QY5 := hy2.1.below hb5
                    have R5 := R.out.below hb5
                    have Z5 := btrans Z.out hb5
                    have c1x := bcell hb5 c1
                    replace QY5 := Lib.hid QY5
                    replace R5 := Lib.hid R5
                    replace Z5 := Lib.hid Z5
                    clear hb5 C
                    go_upto_region 16 with (fail)
                    refine wp_region_list ?_
                    refine list_load undAn infoAn (l := ndV y (.slice none 0 0)) QY5.out rfl rfl 4 rfl rfl ?_
                    refine list_store (l := ndV y (.slice none 0 0)) infoAn R5.out rfl rfl (ndV_one y rfl) rfl 2 69 rfl rfl rfl ?_
                    intro w7 q7 k7
                    have fin : Hid (RNodeV w none (.returned (.tuple #[.agg (ndV y (.slice none 0 0)).toArray, .bool false])) w7) := RNodeV.no y (k7.below Z5.out (fun j hj => by rw [hj]; exact hgg.out.1))
                    have q7' := Lib.hid q7
                    clear q7 k7 R5 Z5 QY5
                    refine wpList_plain rfl (fun K hK => ?_)
                    go_simp
                    refine hK _ _ ?_
                    clear hK K
                    refine wpList_nil ?_
                    go_wp2
                    refine bodyPost_ret (v := .tuple #[.agg (ndV y (.slice none 0 0)).toArray, .bool false]) (results_ct (a := 2) (b := 3) (by kernel_rfl) rfl rfl (loadVar_whole undAn infoAn q7'.out rfl)) rfl ?_
                    exact fin.out
    · have hlI : ¬ (j : Int) < (n : Int) := by omega
      rw [List.drop_of_length_le (by have := hn0.out; omega)] at hy1
      have hy0 : o = none := hy1
      subst hy0
      clear hy1 NUM ONE hlt M
      go_upto_region 23 with (fail)
      refine wp_region_list ?_
      refine list_load undAn infoAn (l := ndV y (.slice none 0 0)) hy2.1 rfl rfl 4 rfl rfl ?_
      refine list_store (l := ndV y (.slice none 0 0)) infoAn R.out rfl rfl (ndV_one y rfl) rfl 2 91 rfl rfl rfl ?_
      intro w7 q7 k7
      have fin : Hid (RNodeV w none (.returned (.tuple #[.agg (ndV y (.slice none 0 0)).toArray, .bool false])) w7) := RNodeV.no y (k7.below Z.out (fun j hj => by rw [hj]; exact hgg.out.1))
      have q7' := Lib.hid q7
      clear q7 k7 R Z
      refine wpList_plain rfl (fun K hK => ?_)
      go_simp
      refine hK _ _ ?_
      clear hK K
      refine wpList_nil ?_
      go_wp2
      refine bodyPost_ret (v := .tuple #[.agg (ndV y (.slice none 0 0)).toArray, .bool false]) (results_ct (a := 2) (b := 3) (by kernel_rfl) rfl rfl (loadVar_whole undAn infoAn q7'.out rfl)) rfl ?_
      exact fin.out
end Go.Proofs.YtjacphcnanopjaaDoor
