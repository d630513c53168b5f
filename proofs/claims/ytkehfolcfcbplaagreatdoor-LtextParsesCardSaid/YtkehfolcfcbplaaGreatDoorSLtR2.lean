/- The reader of formulas: a node is put behind all, a name's place, the end at a token, walked. Conditions: not too many tokens. -/
import Derived.Test.YtkehfolcfcbplaaGreatDoorSLtR1
namespace Go.Proofs.YtkehfolcfcbplaaGreatDoor
open Go.RowKit
set_option linter.unusedVariables false
set_option linter.unusedSimpArgs false
theorem frame31 (arr : Array Value) (h : arr.size = 31) : ∃ q : Nat → Value, arr = #[q 0, q 1, q 2, q 3, q 4, q 5, q 6, q 7, q 8, q 9, q 10, q 11, q 12, q 13, q 14, q 15, q 16, q 17, q 18, q 19, q 20, q 21, q 22, q 23, q 24, q 25, q 26, q 27, q 28, q 29, q 30] := by
 refine ⟨fun i => arr.toList.getD i undef, ?_⟩
 have h1 := list_getN (l := arr.toList) (n := 31) (by simpa using h)
 apply Array.ext'
 exact h1
theorem frame70 (arr : Array Value) (h : arr.size = 70) : ∃ q : Nat → Value, arr = #[q 0, q 1, q 2, q 3, q 4, q 5, q 6, q 7, q 8, q 9, q 10, q 11, q 12, q 13, q 14, q 15, q 16, q 17, q 18, q 19, q 20, q 21, q 22, q 23, q 24, q 25, q 26, q 27, q 28, q 29, q 30, q 31, q 32, q 33, q 34, q 35, q 36, q 37, q 38, q 39, q 40, q 41, q 42, q 43, q 44, q 45, q 46, q 47, q 48, q 49, q 50, q 51, q 52, q 53, q 54, q 55, q 56, q 57, q 58, q 59, q 60, q 61, q 62, q 63, q 64, q 65, q 66, q 67, q 68, q 69] := by
 refine ⟨fun i => arr.toList.getD i undef, ?_⟩
 have h1 := list_getN (l := arr.toList) (n := 70) (by simpa using h)
 apply Array.ext'
 exact h1
theorem sizeStr (w : World) : (sizeOf 9).run Tryz.prog w = .ok 1 w := by kernel_rfl
theorem infoNd3 : (Tryz.prog.info? TNd).map (fun i => (i.zero, i.size, i.bytes)) = some (some (.agg #[.int .i64 0, .int .i64 0]), 2, 16) := by kernel_rfl
def PutV (X : RdX) (w : World) (a : Nat) (O : List Nd) (oa : Option Addr) (oc : Nat) (x : Nd) (e : Ending) (w' : World) : Prop :=
 e = .returned (.bool true) ∧ ∃ oa' oc', RdS X w' a (O ++ [x]) oa' oc' 0 0 ∧ RdG X.g w w' (Value.slice oa O.length oc).ownBlock (Value.slice oa' (O ++ [x]).length oc').ownBlock
set_option maxRecDepth 8000 in
set_option maxHeartbeats 4000000 in
theorem put_any (X : RdX) (hX : RdOk X) (w : World) (a : Nat) (O : List Nd) (oa : Option Addr) (oc : Nat) (h : RdS X w a O oa oc 0 0) (hlt : O.length < a) (op n : Int) :
  Calls Tryz.prog 28 #[.pointer (some ⟨X.g, 0, none⟩), .int .i64 op, .int .i64 n] w fun e w' => PutV X w a O oa oc (op, n) e w' := by
 have c6 : w.cell? ⟨X.g, 6, none⟩ = some (.slice oa O.length oc) := h.box.cell 6
 have hO6 : O.length ≤ 6000 := by have := h.le; have := hX.tl; omega
 have hO := Lib.hid hO6
 replace h := Lib.hid h
 have hlt2 := Lib.hid hlt
 have hX2 := Lib.hid hX
 obtain ⟨on, hon⟩ : ∃ on, on = O.length := ⟨_, rfl⟩
 rw [← hon] at c6
 have honI : (on : Int) ≤ 6000 := by omega
 replace hon := Lib.hid hon
 clear hlt hX hO6
 go_enter Tryz.func28, Tryz.ntmps28
 go_upto_region 1 with (fail)
 refine wp_region_list ?_
 refine wpList_plain rfl (fun K hK => ?_)
 go_simp
 refine hK _ _ ?_
 clear hK K
 refine wpList_plain rfl (fun K hK => ?_)
 go_simp
 refine hK _ _ ?_
 clear hK K
 refine wpList_plain rfl (fun K hK => ?_)
 go_simp
 refine hK _ _ ?_
 clear hK K
 refine wpList_plain rfl (fun K hK => ?_)
 go_simp
 refine hK _ _ ?_
 clear hK K
 refine wpList_plain rfl (fun K hK => ?_)
 go_simp
 refine hK _ _ ?_
 clear hK K
 refine wpList_plain rfl (fun K hK => ?_)
 go_simp
 refine hK _ _ ?_
 clear hK K
 refine wpList_plain rfl (fun K hK => ?_)
 go_simp
 refine hK _ _ ?_
 clear hK K
 refine wpList_plain rfl (fun K hK => ?_)
 go_simp
 refine hK _ _ ?_
 clear hK K
 refine wpList_plain rfl (fun K hK => ?_)
 go_simp
 refine hK _ _ ?_
 clear hK K
 obtain ⟨w7, hw7⟩ : ∃ w7, w7 = w.alloc (.cells #[.int .i64 op, .int .i64 n] TNd) := ⟨_, rfl⟩
 obtain ⟨g7, hg7⟩ : ∃ g7, g7 = w.heap.size := ⟨_, rfl⟩
 have r7 : RowAt w7 g7 TNd [.int .i64 op, .int .i64 n] := by rw [hw7]; exact RowAt.new #[.int .i64 op, .int .i64 n] hg7
 have b67 : Below w.heap.size w w7 := by rw [hw7]; exact balloc (Below.refl _ _) _
 rw [← hw7, ← hg7]
 have h7 := h.out.below b67
 have own7 : OwnR w7 X.W.heap.size TNd 2 oa on oc (pcells O) := by rw [hon.out]; exact h7.own
 have hs7 := b67.size
 replace hw7 := Lib.hid hw7
 replace hg7 := Lib.hid hg7
 refine wp_appR rfl (.tmp 11) (.tmp 15) 25 TNd (.agg #[.int .i64 0, .int .i64 0]) 2 16 rfl Tryz.underlying25 infoNd3 rfl (by decide) X.W.heap.size oa on oc (pcells O) rfl own7 g7 1 [.int .i64 op, .int .i64 n] rfl rfl (fun j u hj => by
  have := r7.cell j
  rw [hj] at this
  rw [add_off, Nat.zero_add]
  exact this) nd_one (by unfold maxLen; omega) (by omega) h7.bel.size ?_
 intro oa8 oc8 w8 own8 hg8 hat8
 have eO : (Value.slice oa on oc).ownBlock = (Value.slice oa O.length oc).ownBlock := own_block_len _ _ _ _
 have bx8 : RowAt w8 X.g TRd (rdV X a O.length oa oc 0 0) := h7.box.keep (hg8.block X.g h7.box.lt (fun e => h7.ap X.g (eO ▸ e.symm) rfl))
 have c8 : w8.cell? ⟨X.g, 6, none⟩ = some (.slice oa O.length oc) := bx8.cell 6
 have f8 := bx8.free 6
 have hl8 : (O ++ [((op, n) : Nd)]).length = on + 1 := by rw [List.length_append, hon.out]; rfl
 have fin : Hid (PutV X w a O oa oc (op, n) (.returned (.bool true)) (w8.setCell ⟨X.g, 6, none⟩ (.slice oa8 (on + 1) oc8))) := by
  have k1 : Keeps w8 (w8.setCell ⟨X.g, 6, none⟩ (.slice oa8 (on + 1) oc8)) (fun j => j = X.g) := Keeps.set _ _ _ _ rfl
  have hne : ∀ j, (Value.slice oa8 (on + 1) oc8).ownBlock = some j → j ≠ X.g := fun j hj e => by
   rcases hat8 with e1 | e1
   ·exact h7.ap j (eO ▸ (e1.symm.trans hj)) e
   ·rw [hj] at e1
    injection e1 with e1
    have := h7.box.lt
    omega
  refine ⟨rfl, oa8, oc8, ⟨?_, ?_, ?_, ?_, ?_⟩, ?_⟩
  ·rw [hl8]
   exact bx8.set 6 _
  ·rw [hl8, pcells_snoc]
   exact OwnR.keeps own8 k1 (fun j hj e => hne j hj e)
  ·rw [hl8]
   exact hne
  ·refine k1.below (bgrown h7.bel hg8 (fun j hj => (OwnR.lt own7 hj).1)) (fun j e => by rw [e]; exact hX2.out.gB)
  ·rw [hl8]
   have := h.out.le
   have := hlt2.out
   have := hon.out
   omega
  ·rw [hl8]
   refine ⟨?_, fun j hj => ?_⟩
   ·have k2 : Keeps w w8 (fun j => j = X.g ∨ (Value.slice oa O.length oc).ownBlock = some j) := (Keeps.of_below b67).trans (Keeps.of_grown (S := fun j => (Value.slice oa O.length oc).ownBlock = some j) hg8 (fun j hj => eO ▸ hj)) (fun j _ e => .inr e)
    exact k2.trans k1 (fun j _ e => .inl e)
   ·rcases hat8 with e1 | e1
    ·exact .inl (eO ▸ (e1.symm.trans hj))
    ·rw [hj] at e1
     injection e1 with e1
     exact .inr (by omega)
 clear own8 hg8 hat8 bx8 own7 h7 r7 b67 hl8 eO
 refine wpList_plain rfl (fun K hK => ?_)
 go_simp
 refine hK _ _ ?_
 clear hK K
 refine wpList_plain rfl (fun K hK => ?_)
 go_simp
 refine hK _ _ ?_
 clear hK K
 refine wpList_plain rfl (fun K hK => ?_)
 go_simp
 refine hK _ _ ?_
 clear hK K
 refine wpList_nil ?_
 clear c8 f8 c6
 generalize w8.setCell ⟨X.g, 6, none⟩ (.slice oa8 (on + 1) oc8) = w9 at fin ⊢
 go_wp2
 go_ret
 exact fin.out
def NameW (o : Option Nat) (e : Ending) : Prop := match o with
 | some k => e = .returned (.tuple #[.int .i64 (k : Int), .bool true])
 | none => ∃ i : Int, e = .returned (.tuple #[.int .i64 i, .bool false])
theorem idx_range {s : List UInt8} : ∀ (N : List (List UInt8)) (k : Nat), idxP s N k = -1 ∨ ∃ i, i < N.length ∧ idxP s N k = ((i + k : Nat) : Int) ∧ N.getD i [] = s ∧ ∀ j, j < i → N.getD j [] ≠ s
 | [], k => .inl rfl
 | x :: N, k => by
  rw [idxP]
  by_cases h : x = s
  ·rw [if_pos h]
   exact .inr ⟨0, by simp, by simp, h, fun j hj => by omega⟩
  ·rw [if_neg h]
   rcases idx_range N (k + 1) with e | ⟨i, h1, h2, h3, h4⟩
   ·exact .inl e
   ·refine .inr ⟨i + 1, by simpa using h1, by rw [h2]; congr 1; omega, by simpa using h3, fun j hj => ?_⟩
    cases j with
    | zero => exact h
    | succ j => simpa using h4 j (by omega)
theorem name_of (N : List (List UInt8)) (s : List UInt8) : (idxP s (N.take 8) 0 = -1 ∧ nameAt N s = none) ∨ ∃ k, k < N.length ∧ k < 8 ∧ idxP s (N.take 8) 0 = (k : Int) ∧ nameAt N s = if mayP N k = true then some k else none := by
 have gt : ∀ j, j < 8 → (N.take 8).getD j [] = N.getD j [] := fun j hj => by simp [List.getD, List.getElem?_take, hj]
 rcases idx_range (s := s) (N.take 8) 0 with e | ⟨i, h1, h2, h3, h4⟩
 ·refine .inl ⟨e, ?_⟩
  unfold nameAt
  rw [List.find?_eq_none]
  intro j hj
  rw [List.mem_range] at hj
  intro h
  rw [Bool.and_eq_true, beq_iff_eq] at h
  have h5 := idx_has s (N.take 8) 0
  rw [e] at h5
  have h6 : (N.take 8).contains s = true := by
   rw [List.contains_iff_mem, ← h.1]
   have hjl : j < (N.take 8).length := by rw [List.length_take]; omega
   rw [← gt j (by omega)]
   simp only [List.getD, List.getElem?_eq_getElem hjl, Option.getD_some]
   exact List.getElem_mem hjl
  rw [h6] at h5
  cases h5
 ·rw [List.length_take] at h1
  refine .inr ⟨i, by omega, by omega, by rw [h2, Nat.add_zero], ?_⟩
  rw [gt i (by omega)] at h3
  by_cases hm : mayP N i = true
  ·rw [if_pos hm, ← h3]
   exact nameAt_may (by omega) (by omega) hm
  ·rw [if_neg hm]
   unfold nameAt
   rw [List.find?_eq_none]
   intro j hj
   rw [List.mem_range] at hj
   intro h
   rw [Bool.and_eq_true, beq_iff_eq] at h
   have hji : ¬ j < i := fun hlt => h4 j hlt (by rw [gt j (by omega)]; exact h.1)
   by_cases hij : i = j
   ·subst hij
    exact hm h.2
   ·have hmf := (may_facts h.2).2.2
    have hmem := getD_mem (N := N) (j := i) (i := j) (by omega) (by omega)
    rw [h3, ← h.1] at hmem
    rw [← Bool.not_eq_true, List.contains_iff_mem] at hmf
    exact hmf hmem
set_option maxRecDepth 8000 in
set_option maxHeartbeats 8000000 in
theorem name_place (X : RdX) (hX : RdOk X) (w : World) (a : Nat) (O : List Nd) (oa : Option Addr) (oc : Nat) (pl wy : Int) (h : RdS X w a O oa oc pl wy) (s : ByteArray) :
  Calls Tryz.prog 30 #[.pointer (some ⟨X.g, 0, none⟩), .string s] w fun e w' => NameW (nameAt X.N s.data.toList) e ∧ Below w.heap.size w w' := by
 have c2 : w.cell? ⟨X.g, 2, none⟩ = some (.slice X.na X.N.length X.nc) := h.box.cell 2
 have hns := hX.names.below h.bel
 have IDX : Hid (∀ v, Below w.heap.size w v → Calls Tryz.prog 56 #[.slice X.na (X.N.take 8).length X.nc, .string s] v fun e w' => e = .returned (.int .i64 (idxP s.data.toList (X.N.take 8) 0)) ∧ v = w') := fun v hb => index_any v X.na X.nc (X.N.take 8) ((hns.below hb).take 8) (by rw [List.length_take]; have := hX.nl; omega) s
 have MY : Hid (∀ v, Below w.heap.size w v → ∀ i, i < X.N.length → Calls Tryz.prog 21 #[.slice X.na X.N.length X.nc, .int .i64 (i : Int)] v fun e w' => e = .returned (.bool (mayP X.N i)) ∧ Below v.heap.size v w') := fun v hb i hi => may_any v (hX.door.below (h.bel.trans (hb.mono h.bel.size))) X.na X.nc X.N (hns.below hb) hX.nl hX.nc i hi (hX.ns _ (by
  have : X.N.getD i [] = X.N[i] := by simp [List.getD, List.getElem?_eq_getElem hi]
  rw [this]
  exact List.getElem_mem hi))
 have NO := name_of X.N s.data.toList
 generalize nameAt X.N s.data.toList = na0 at NO ⊢
 obtain ⟨m8, hm8⟩ : ∃ m8, m8 = (X.N.take 8).length := ⟨_, rfl⟩
 rw [← hm8] at IDX
 rw [List.length_take] at hm8
 generalize idxP s.data.toList (X.N.take 8) 0 = ix at IDX NO
 obtain ⟨n, hn⟩ : ∃ n, n = X.N.length := ⟨_, rfl⟩
 have hnl := hX.nl
 have hnc := hX.nc
 rw [← hn] at c2 MY hm8 NO hnl hnc
 have hnI : (n : Int) ≤ 1000 := by omega
 have hncI : (n : Int) ≤ (X.nc : Int) := by omega
 have hmin : min (n : Int) 8 = (m8 : Int) := by omega
 have hm8I : (m8 : Int) ≤ (n : Int) := by omega
 replace hn := Lib.hid hn
 replace hm8 := Lib.hid hm8
 clear hns h hnl hnc
 have POST : Hid (∀ (b : Bool) (i : Int), (b = true → na0 = some i.toNat ∧ 0 ≤ i) → (b = false → na0 = none) → NameW na0 (.returned (.tuple #[.int .i64 i, .bool b]))) := fun b i h1 h2 => by
  unfold NameW
  cases b with
  | true =>
   obtain ⟨e, e2⟩ := h1 rfl
   rw [e]
   show _ = _
   rw [Int.toNat_of_nonneg e2]
  | false =>
   rw [h2 rfl]
   exact ⟨i, rfl⟩
 show Calls _ _ _ _ fun e w' => NameW na0 e ∧ _
 go_enter Tryz.func30, Tryz.ntmps30
 go_upto_region 1 with (fail)
 refine wp_region_kp (by kernel_rfl) 13 [.fix (.pointer (some ⟨X.g, 0, none⟩)), .fix (.pointer (some ⟨X.g, 0, none⟩)), .fix (.pointer (some ⟨X.g, 2, none⟩)), .fix (.slice X.na n X.nc), .fix (.pointer (some ⟨X.g, 0, none⟩)), .fix (.pointer (some ⟨X.g, 0, none⟩)), .fix (.pointer (some ⟨X.g, 2, none⟩)), .fix (.slice X.na n X.nc), .fix (.int .i64 (n : Int)), .fix (.int .i64 (m8 : Int)), .fix (.slice X.na m8 X.nc), .fix (.string s), .fix (.int .i64 ix)] (by kernel_rfl) (by kernel_rfl) (by kernel_rfl) ?_ ?_
 ·intro i hi
  match i, hi with
  | 0, _ =>
   intro o ho ac w' hR hF hD K hK
   simp only [zqA, zqZ, zqI] at ho
   subst ho
   have e0 : ac.tmps.getD 0 undef = .pointer (some ⟨X.g, 0, none⟩) := hF 0 (znd (by kernel_rfl))
   have d0 := zgD e0
   clear hD hF
   go_simp
   exact hK _ _ (Below.refl _ _) rfl
  | 1, _ =>
   intro o ho ac w' hR hF hD K hK
   simp only [zqA, zqZ, zqS, zqI] at ho
   subst ho
   have e7 : ac.tmps.getD 7 undef = .pointer (some ⟨X.g, 0, none⟩) := hD 0 (zdp (by kernel_rfl)) 7 rfl
   have d7 := zgD e7
   clear hD hF
   go_simp
   exact hK _ _ (Below.refl _ _) rfl
  | 2, _ =>
   intro o ho ac w' hR hF hD K hK
   simp only [zqA, zqZ, zqS, zqI] at ho
   subst ho
   have e8 : ac.tmps.getD 8 undef = .pointer (some ⟨X.g, 0, none⟩) := hD 1 (zdp (by kernel_rfl)) 8 rfl
   have d8 := zgD e8
   clear hD hF
   go_simp
   exact hK _ _ (Below.refl _ _) rfl
  | 3, _ =>
   intro o ho ac w' hR hF hD K hK
   simp only [zqA, zqZ, zqS, zqI] at ho
   subst ho
   have e9 : ac.tmps.getD 9 undef = .pointer (some ⟨X.g, 2, none⟩) := hD 2 (zdp (by kernel_rfl)) 9 rfl
   have d9 := zgD e9
   clear hD hF
   have q0 : w'.cell? ⟨X.g, 2, none⟩ = some (.slice X.na n X.nc) := bcell hR c2
   go_simp
   exact hK _ _ (Below.refl _ _) rfl
  | 4, _ =>
   intro o ho ac w' hR hF hD K hK
   simp only [zqA, zqZ, zqS, zqI] at ho
   subst ho
   have e0 : ac.tmps.getD 0 undef = .pointer (some ⟨X.g, 0, none⟩) := hF 0 (znd (by kernel_rfl))
   have d0 := zgD e0
   clear hD hF
   go_simp
   exact hK _ _ (Below.refl _ _) rfl
  | 5, _ =>
   intro o ho ac w' hR hF hD K hK
   simp only [zqA, zqZ, zqS, zqI] at ho
   subst ho
   have e11 : ac.tmps.getD 11 undef = .pointer (some ⟨X.g, 0, none⟩) := hD 4 (zdp (by kernel_rfl)) 11 rfl
   have d11 := zgD e11
   clear hD hF
   go_simp
   exact hK _ _ (Below.refl _ _) rfl
  | 6, _ =>
   intro o ho ac w' hR hF hD K hK
   simp only [zqA, zqZ, zqS, zqI] at ho
   subst ho
   have e12 : ac.tmps.getD 12 undef = .pointer (some ⟨X.g, 0, none⟩) := hD 5 (zdp (by kernel_rfl)) 12 rfl
   have d12 := zgD e12
   clear hD hF
   go_simp
   exact hK _ _ (Below.refl _ _) rfl
  | 7, _ =>
   intro o ho ac w' hR hF hD K hK
   simp only [zqA, zqZ, zqS, zqI] at ho
   subst ho
   have e13 : ac.tmps.getD 13 undef = .pointer (some ⟨X.g, 2, none⟩) := hD 6 (zdp (by kernel_rfl)) 13 rfl
   have d13 := zgD e13
   clear hD hF
   have q0 : w'.cell? ⟨X.g, 2, none⟩ = some (.slice X.na n X.nc) := bcell hR c2
   go_simp
   exact hK _ _ (Below.refl _ _) rfl
  | 8, _ =>
   intro o ho ac w' hR hF hD K hK
   simp only [zqA, zqZ, zqS, zqI] at ho
   subst ho
   have e14 : ac.tmps.getD 14 undef = .slice X.na n X.nc := hD 7 (zdp (by kernel_rfl)) 14 rfl
   have d14 := zgD e14
   clear hD hF
   go_simp
   exact hK _ _ (Below.refl _ _) rfl
  | 9, _ =>
   intro o ho ac w' hR hF hD K hK
   simp only [zqA, zqZ, zqS, zqI] at ho
   subst ho
   have e15 : ac.tmps.getD 15 undef = .int .i64 (n : Int) := hD 8 (zdp (by kernel_rfl)) 15 rfl
   have d15 := zgD e15
   clear hD hF
   go_simp
   exact hK _ _ (Below.refl _ _) rfl
  | 10, _ =>
   intro o ho ac w' hR hF hD K hK
   simp only [zqA, zqZ, zqS, zqI] at ho
   subst ho
   have e10 : ac.tmps.getD 10 undef = .slice X.na n X.nc := hD 3 (zdp (by kernel_rfl)) 10 rfl
   have d10 := zgD e10
   have e16 : ac.tmps.getD 16 undef = .int .i64 (m8 : Int) := hD 9 (zdp (by kernel_rfl)) 16 rfl
   have d16 := zgD e16
   clear hD hF
   have RH := run_cut_h (P := Tryz.prog) (kh := .i64) (H := (m8 : Int)) Tryz.underlying22 sizeStr X.na n X.nc m8 rfl (by omega) w'
   go_simp
   exact hK _ _ (Below.refl _ _) rfl
  | 11, _ =>
   intro o ho ac w' hR hF hD K hK
   simp only [zqA, zqZ, zqS, zqI] at ho
   subst ho
   have e1 : ac.tmps.getD 1 undef = .string s := hF 1 (znd (by kernel_rfl))
   have d1 := zgD e1
   clear hD hF
   go_simp
   exact hK _ _ (Below.refl _ _) rfl
  | 12, _ =>
   intro o ho ac w' hR hF hD K hK
   simp only [zqA, zqZ, zqS, zqI] at ho
   subst ho
   have e17 : ac.tmps.getD 17 undef = .slice X.na m8 X.nc := hD 10 (zdp (by kernel_rfl)) 17 rfl
   have d17 := zgD e17
   have e18 : ac.tmps.getD 18 undef = .string s := hD 11 (zdp (by kernel_rfl)) 18 rfl
   have d18 := zgD e18
   clear hD hF
   go_simp
   refine (IDX.out w' hR).mono ?_
   rintro e w2 ⟨rfl, rfl⟩
   exact hK _ _ (Below.refl _ _) rfl
  | k + 13, hk => omega
 ·rintro ⟨tm, df⟩ w5 hdf hsz hF hR9 hV
  obtain rfl : df = [] := hdf
  obtain ⟨q, rfl⟩ := frame31 tm hsz
  have k19 : q 19 = .int .i64 ix := hV 12 19 (by decide) rfl
  simp only [k19]
  clear k19
  have kk := zbk hF [0, 1, 2, 3, 4, 5, 6, 20, 21, 22, 23, 24, 25, 26, 27, 28, 29, 30] (by kernel_rfl)
  simp only [Bk, Array.getD_eq_getD_getElem?, zqA, zqS, zqZ, Option.getD_some] at kk
  simp only [kk]
  clear kk
  clear hF hV hsz
  change wpAny _ _ _ _ 1 _ _ _
  refine wpAny_ready (rs := [13]) (by kernel_rfl) (by simp) ?_
  refine AllReady.cons (i := 13) rfl (fun K hK => ?_) AllReady.nil
  go_simp
  refine hK _ _ ?_
  clear hK K
  refine ⟨by kernel_rfl, ?_⟩
  rcases NO with ⟨e1, e2⟩ | ⟨k, hk1, hk2, e1, e2⟩
  ·subst e1
   have fin := Lib.hid (POST.out false (-1) (fun h => by cases h) (fun _ => e2))
   clear POST MY e2
   replace hR9 := Lib.hid hR9
   go_wp2
   refine bodyPost_ret (v := .tuple #[.int .i64 (-1), .bool false]) (by simp [results, Tryz.results30]) rfl ⟨fin.out, hR9.out⟩
  ·subst e1
   have M1 := Lib.hid (MY.out w5 hR9 k (by have := hn.out; omega))
   have hkI : (k : Int) < 8 := by omega
   have c5 : w5.cell? ⟨X.g, 2, none⟩ = some (.slice X.na n X.nc) := bcell hR9 c2
   replace hR9 := Lib.hid hR9
   cases hm : mayP X.N k with
   | true =>
    rw [hm] at M1 e2
    have fin := Lib.hid (POST.out true (k : Int) (fun _ => ⟨by rw [e2, if_pos rfl]; rfl, by omega⟩) (fun h => by cases h))
    clear POST MY e2 hm
    go_wp2_with fail
    refine M1.out.mono ?_
    rintro e w6 ⟨rfl, hb6⟩
    have zz := Lib.hid (btrans hR9.out hb6)
    clear hb6
    go_wp2
    refine bodyPost_ret (v := .tuple #[.int .i64 (k : Int), .bool true]) (by simp [results, Tryz.results30]) rfl ⟨fin.out, zz.out⟩
   | false =>
    rw [hm] at M1 e2
    have fin := Lib.hid (POST.out false (k : Int) (fun h => by cases h) (fun _ => by rw [e2, if_neg (by decide)]))
    clear POST MY e2 hm
    go_wp2_with fail
    refine M1.out.mono ?_
    rintro e w6 ⟨rfl, hb6⟩
    have zz := Lib.hid (btrans hR9.out hb6)
    clear hb6
    go_wp2
    refine bodyPost_ret (v := .tuple #[.int .i64 (k : Int), .bool false]) (by simp [results, Tryz.results30]) rfl ⟨fin.out, zz.out⟩
end Go.Proofs.YtkehfolcfcbplaaGreatDoor
