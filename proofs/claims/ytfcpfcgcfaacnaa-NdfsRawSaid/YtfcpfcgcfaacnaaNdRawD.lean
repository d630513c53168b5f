/- The walk of 'NdfsRaw'. No conditions but the form's reach. -/
import Derived.Test.YtfcpfcgcfaacnaaNdOps
import Derived.Test.YtfcpfcgcfaacnaaNdLaw2
import Derived.Test.YtfcpfcgcfaacnaaNdRActs
import Derived.Test.YtfcpfcgcfaacnaaNdNobody
import Derived.BigRegion
namespace Go.Proofs.Ytfcpfcgcfaacnaa
open Go.RowKit

theorem frame130 (arr : Array Value) (h : arr.size = 130) : ∃ q : Nat → Value, arr = #[q 0, q 1, q 2, q 3, q 4, q 5, q 6, q 7, q 8, q 9, q 10, q 11, q 12, q 13, q 14, q 15, q 16, q 17, q 18, q 19, q 20, q 21, q 22, q 23, q 24, q 25, q 26, q 27, q 28, q 29, q 30, q 31, q 32, q 33, q 34, q 35, q 36, q 37, q 38, q 39, q 40, q 41, q 42, q 43, q 44, q 45, q 46, q 47, q 48, q 49, q 50, q 51, q 52, q 53, q 54, q 55, q 56, q 57, q 58, q 59, q 60, q 61, q 62, q 63, q 64, q 65, q 66, q 67, q 68, q 69, q 70, q 71, q 72, q 73, q 74, q 75, q 76, q 77, q 78, q 79, q 80, q 81, q 82, q 83, q 84, q 85, q 86, q 87, q 88, q 89, q 90, q 91, q 92, q 93, q 94, q 95, q 96, q 97, q 98, q 99, q 100, q 101, q 102, q 103, q 104, q 105, q 106, q 107, q 108, q 109, q 110, q 111, q 112, q 113, q 114, q 115, q 116, q 117, q 118, q 119, q 120, q 121, q 122, q 123, q 124, q 125, q 126, q 127, q 128, q 129] := by
  refine ⟨fun i => arr.toList.getD i undef, ?_⟩
  have h1 := list_getN (l := arr.toList) (n := 130) (by simpa using h)
  apply Array.ext'
  exact h1
/-- the acts that come of any product, or of none -/
def actsP (G : GR) (sets : List (List Bool)) (A : AU) (stem loop : List PP) : List Int × List Int := if newB G sets A = true then lassoActs (ndAct G sets A) stem loop else ([], [])
theorem acts_void (stem loop : List PP) : lassoActs (actE (fun _ _ => none)) stem loop = ([], []) := by
  cases loop with
  | nil => rfl
  | cons z r =>
    have h : chain (actE (fun _ _ => none)) (z :: r ++ [z]) = none := by
      cases r with
      | nil => rfl
      | cons y r => rfl
    show bothO (chain _ (stem ++ [z])) (chain _ (z :: r ++ [z])) = _
    rw [h]
    cases chain (actE (fun _ _ => none)) (stem ++ [z]) <;> rfl
theorem chain_len (E : PP → PP → Option Int) : ∀ (l : List PP) (xs : List Int), chain E l = some xs → xs.length ≤ l.length
  | [], xs, h => by cases h; exact Nat.le_refl _
  | [_], xs, h => by cases h; exact Nat.zero_le _
  | a :: b :: l, xs, h => by
    rw [chain] at h
    cases hE : E a b with
    | none => rw [hE] at h; cases h
    | some v =>
      rw [hE] at h
      simp only at h
      cases hc : chain E (b :: l) with
      | none => rw [hc] at h; cases h
      | some ys =>
        rw [hc] at h
        cases h
        have := chain_len E (b :: l) ys hc
        simp only [List.length_cons] at this ⊢
        omega
theorem acts_len (E : PP → PP → Option Int) (stem loop : List PP) : (lassoActs E stem loop).1.length ≤ stem.length + 1 ∧ (lassoActs E stem loop).2.length ≤ loop.length + 1 := by
  cases loop with
  | nil => exact ⟨Nat.zero_le _, Nat.zero_le _⟩
  | cons z r =>
    show (bothO (chain E (stem ++ [z])) (chain E (z :: r ++ [z]))).1.length ≤ _ ∧ (bothO (chain E (stem ++ [z])) (chain E (z :: r ++ [z]))).2.length ≤ _
    cases h1 : chain E (stem ++ [z]) with
    | none => exact ⟨Nat.zero_le _, Nat.zero_le _⟩
    | some xs =>
      cases h2 : chain E (z :: r ++ [z]) with
      | none => exact ⟨Nat.zero_le _, Nat.zero_le _⟩
      | some ys =>
        have e1 := chain_len E _ _ h1
        have e2 := chain_len E _ _ h2
        rw [List.length_append] at e1 e2
        exact ⟨e1, e2⟩
theorem actsP_len (G : GR) (sets : List (List Bool)) (A : AU) (stem loop : List PP) : (actsP G sets A stem loop).1.length ≤ stem.length + 1 ∧ (actsP G sets A stem loop).2.length ≤ loop.length + 1 := by
  unfold actsP
  split
  · exact acts_len _ _ _
  · exact ⟨Nat.zero_le _, Nat.zero_le _⟩
theorem acts_nv (w : World) (v : Value) (G : GR) (sets : List (List Bool)) (A : AU) (hv : NewV w G sets A v) (lt : Lt G sets A) (k9 y9 n9 e9 d9 : Int) (sa la : Option Addr) (sc lc : Nat) (stem loop : List PP) (ps : PpsAt w sa stem) (pl : PpsAt w la loop) (hs : stem.length ≤ 1000000) (hl : loop.length ≤ 1000000) :
    Calls Try.prog 18 #[v, .agg #[.int .i64 k9, .int .i64 y9, .int .i64 n9, .int .i64 e9, .int .i64 d9, .slice sa stem.length sc, .slice la loop.length lc]] w fun e w' => Below w.heap.size w w' ∧ TwoAt w' e (actsP G sets A stem loop) := by
  unfold actsP
  rcases hv with ⟨h1, p, rfl, hp⟩ | ⟨h1, rfl⟩
  · rw [if_pos h1]
    exact actsV_any w p G sets A hp lt k9 y9 n9 e9 d9 sa la sc lc stem loop ps pl hs hl
  · rw [if_neg (by rw [h1]; decide), ← acts_void stem loop]
    exact acts_v w (.pointer none) (fun _ _ => none) (fun v hb x y => nobody_edge v none (.inl rfl) x y) k9 y9 n9 e9 d9 sa la sc lc stem loop ps pl hs hl
/-- a finding as an argument -/
structure FA where
  k : Int
  y : Int
  n : Int
  e : Int
  d : Int
  stem : List PP
  loop : List PP
def rFd : Rd FA := fun w cs f => ∃ v1 v2, cs = [.int .i64 f.k, .int .i64 f.y, .int .i64 f.n, .int .i64 f.e, .int .i64 f.d, v1, v2] ∧ rSl 3 24 rPP w [v1] f.stem ∧ rSl 3 24 rPP w [v2] f.loop
theorem PpsAt.of_rSl {w : World} {v : Value} {xs : List PP} (h : rSl 3 24 rPP w [v] xs) : ∃ a cap, v = .slice a xs.length cap ∧ PpsAt w a xs := by
  obtain ⟨a, cap, h1, h2, h3, _, h5⟩ := h
  refine ⟨a, cap, by simpa using h1, fun h0 => ?_⟩
  obtain ⟨b, off, ha, hc⟩ := h5 h0
  refine ⟨b, off, ha, fun i hi => ?_⟩
  obtain ⟨vs, _, hv, hr⟩ := hc i hi
  unfold rPP at hr
  subst hr
  exact ⟨by have := hv 0 (by decide); simpa using this, by have := hv 1 (by decide); simpa using this, by have := hv 2 (by decide); simpa using this⟩
/-- where the law begins: the task, the finding, the budget in boxes -/
structure BoxR (W : World) (X : RX) (G : GR) (sets : List (List Bool)) (A : AU) (fc : List Value) (b1 b2 : Int) (w : World) : Prop where
  rt : RowAt w W.heap.size TTk (tcells X G sets A)
  rf : RowAt w (W.heap.size + 1) TFd fc
  rb : RowAt w (W.heap.size + 2) TBu [.int .i64 b1, .int .i64 b2]
  below : Below W.heap.size W w
theorem BoxR.start (W : World) (X : RX) (G : GR) (sets : List (List Bool)) (A : AU) (fc : Array Value) (b1 b2 : Int) : BoxR W X G sets A fc.toList b1 b2 (((W.alloc (.cells (tcells X G sets A).toArray TTk)).alloc (.cells fc TFd)).alloc (.cells #[.int .i64 b1, .int .i64 b2] TBu)) :=
  ⟨((RowAt.new (tcells X G sets A).toArray rfl).alloc _).alloc _, (RowAt.new fc (by simp)).alloc _, RowAt.new #[.int .i64 b1, .int .i64 b2] (by simp), balloc (balloc (balloc (Below.refl _ _) _) _) _⟩
theorem BoxR.next {W : World} {X : RX} {G : GR} {sets : List (List Bool)} {A : AU} {fc : List Value} {b1 b2 : Int} {w w' : World} (h : BoxR W X G sets A fc b1 b2 w) (hb : Below w.heap.size w w') : BoxR W X G sets A fc b1 b2 w' := ⟨h.rt.below hb, h.rf.below hb, h.rb.below hb, btrans h.below hb⟩
set_option maxRecDepth 20000 in
set_option maxHeartbeats 16000000 in
theorem raw_heavy (W : World) (X : RX) (G : GR) (sets : List (List Bool)) (A : AU) (b1 b2 : Int) (h : LawIn W X G sets A) (k9 y9 n9 e9 d9 : Int) (sa la : Option Addr) (sc lc : Nat) (stem loop : List PP) (hl : lightK G sets A = false) :
    Calls Try.prog 8 #[.agg (tcells X G sets A).toArray, .agg #[.int .i64 k9, .int .i64 y9, .int .i64 n9, .int .i64 e9, .int .i64 d9, .slice sa stem.length sc, .slice la loop.length lc], .agg #[.int .i64 b1, .int .i64 b2]] W fun e w' => e = .returned (.bool true) ∧ Below W.heap.size W w' := by
  obtain ⟨ai, ae, al, as_, bi, bn, ci, ce, cl, cs, di, dn⟩ := X
  dsimp only [tcells]
  obtain ⟨n1, hn1⟩ : ∃ n, n = stem.length := ⟨_, rfl⟩
  obtain ⟨n2, hn2⟩ : ∃ n, n = loop.length := ⟨_, rfl⟩
  have B0 := BoxR.start W ⟨ai, ae, al, as_, bi, bn, ci, ce, cl, cs, di, dn⟩ G sets A #[.int .i64 k9, .int .i64 y9, .int .i64 n9, .int .i64 e9, .int .i64 d9, .slice sa stem.length sc, .slice la loop.length lc] b1 b2
  rw [← hn1, ← hn2] at B0 ⊢
  obtain ⟨w2, hw2⟩ : ∃ w2, w2 = ((W.alloc (.cells #[.slice ai G.init.length ci, .slice ae G.edges.length ce, .slice al G.labels.length cl, .slice as_ sets.length cs, .int .i64 A.sets, .slice bi A.init.length di, .slice bn A.nodes.length dn] TTk)).alloc (.cells #[.int .i64 k9, .int .i64 y9, .int .i64 n9, .int .i64 e9, .int .i64 d9, .slice sa n1 sc, .slice la n2 lc] TFd)).alloc (.cells #[.int .i64 b1, .int .i64 b2] TBu) := ⟨_, rfl⟩
  replace B0 : BoxR W ⟨ai, ae, al, as_, bi, bn, ci, ce, cl, cs, di, dn⟩ G sets A [.int .i64 k9, .int .i64 y9, .int .i64 n9, .int .i64 e9, .int .i64 d9, .slice sa n1 sc, .slice la n2 lc] b1 b2 w2 := by rw [hw2]; exact B0
  have HV : Hid (∀ w, Below W.heap.size W w → Calls Try.prog 9 #[.agg #[.slice ai G.init.length ci, .slice ae G.edges.length ce, .slice al G.labels.length cl, .slice as_ sets.length cs, .int .i64 A.sets, .slice bi A.init.length di, .slice bn A.nodes.length dn]] w fun e w' => e = .returned (.int .i64 1) ∧ Below w.heap.size w w') := fun w hb => by
    have := heavy_any w ⟨ai, ae, al, as_, bi, bn, ci, ce, cl, cs, di, dn⟩ G sets A (h.below hb)
    rw [heavyN_1 hl] at this
    exact this
  have hb0 := Lib.hid B0.below
  replace B0 := Lib.hid B0
  have t0 : w2.cell? ⟨W.heap.size, 0, none⟩ = some (.slice ai G.init.length ci) := B0.out.rt.cell 0
  have t1 : w2.cell? ⟨W.heap.size, 1, none⟩ = some (.slice ae G.edges.length ce) := B0.out.rt.cell 1
  have t2 : w2.cell? ⟨W.heap.size, 2, none⟩ = some (.slice al G.labels.length cl) := B0.out.rt.cell 2
  have t3 : w2.cell? ⟨W.heap.size, 3, none⟩ = some (.slice as_ sets.length cs) := B0.out.rt.cell 3
  have t4 : w2.cell? ⟨W.heap.size, 4, none⟩ = some (.int .i64 A.sets) := B0.out.rt.cell 4
  have t5 : w2.cell? ⟨W.heap.size, 5, none⟩ = some (.slice bi A.init.length di) := B0.out.rt.cell 5
  have t6 : w2.cell? ⟨W.heap.size, 6, none⟩ = some (.slice bn A.nodes.length dn) := B0.out.rt.cell 6
  replace hw2 := Lib.hid hw2
  replace hn1 := Lib.hid hn1.symm
  replace hn2 := Lib.hid hn2.symm
  go_enter Try.func8, Try.ntmps8
  go_upto_region 1 with (fail)
  rw [← hw2.out]
  clear hw2
  go_wp2_with fail
  refine (HV.out _ hb0.out).mono ?_
  rintro e w3 ⟨rfl, hb3⟩
  have BT := B0.out.next hb3
  have f5 : w3.cell? ⟨W.heap.size + 1, 5, none⟩ = some (.slice sa n1 sc) := BT.rf.cell 5
  have f6 : w3.cell? ⟨W.heap.size + 1, 6, none⟩ = some (.slice la n2 lc) := BT.rf.cell 6
  clear t0 t1 t2 t3 t4 t5 t6
  go_wp2_with fail
  refine (works_true _).mono ?_
  rintro e w4 ⟨rfl, hb4⟩
  go_wp2
  go_ret
  exact ⟨rfl, btrans hb0.out (btrans hb3 hb4)⟩
set_option maxRecDepth 20000 in
set_option maxHeartbeats 16000000 in
theorem raw_long1 (W : World) (X : RX) (G : GR) (sets : List (List Bool)) (A : AU) (b1 b2 : Int) (h : LawIn W X G sets A) (k9 y9 n9 e9 d9 : Int) (sa la : Option Addr) (sc lc : Nat) (stem loop : List PP) (hl : lightK G sets A = true) (hs : 20 < stem.length) :
    Calls Try.prog 8 #[.agg (tcells X G sets A).toArray, .agg #[.int .i64 k9, .int .i64 y9, .int .i64 n9, .int .i64 e9, .int .i64 d9, .slice sa stem.length sc, .slice la loop.length lc], .agg #[.int .i64 b1, .int .i64 b2]] W fun e w' => e = .returned (.bool true) ∧ Below W.heap.size W w' := by
  obtain ⟨ai, ae, al, as_, bi, bn, ci, ce, cl, cs, di, dn⟩ := X
  dsimp only [tcells]
  obtain ⟨n1, hn1⟩ : ∃ n, n = stem.length := ⟨_, rfl⟩
  obtain ⟨n2, hn2⟩ : ∃ n, n = loop.length := ⟨_, rfl⟩
  have B0 := BoxR.start W ⟨ai, ae, al, as_, bi, bn, ci, ce, cl, cs, di, dn⟩ G sets A #[.int .i64 k9, .int .i64 y9, .int .i64 n9, .int .i64 e9, .int .i64 d9, .slice sa stem.length sc, .slice la loop.length lc] b1 b2
  rw [← hn1, ← hn2] at B0 ⊢
  obtain ⟨w2, hw2⟩ : ∃ w2, w2 = ((W.alloc (.cells #[.slice ai G.init.length ci, .slice ae G.edges.length ce, .slice al G.labels.length cl, .slice as_ sets.length cs, .int .i64 A.sets, .slice bi A.init.length di, .slice bn A.nodes.length dn] TTk)).alloc (.cells #[.int .i64 k9, .int .i64 y9, .int .i64 n9, .int .i64 e9, .int .i64 d9, .slice sa n1 sc, .slice la n2 lc] TFd)).alloc (.cells #[.int .i64 b1, .int .i64 b2] TBu) := ⟨_, rfl⟩
  replace B0 : BoxR W ⟨ai, ae, al, as_, bi, bn, ci, ce, cl, cs, di, dn⟩ G sets A [.int .i64 k9, .int .i64 y9, .int .i64 n9, .int .i64 e9, .int .i64 d9, .slice sa n1 sc, .slice la n2 lc] b1 b2 w2 := by rw [hw2]; exact B0
  have HV : Hid (∀ w, Below W.heap.size W w → Calls Try.prog 9 #[.agg #[.slice ai G.init.length ci, .slice ae G.edges.length ce, .slice al G.labels.length cl, .slice as_ sets.length cs, .int .i64 A.sets, .slice bi A.init.length di, .slice bn A.nodes.length dn]] w fun e w' => e = .returned (.int .i64 0) ∧ Below w.heap.size w w') := fun w hb => by
    have := heavy_any w ⟨ai, ae, al, as_, bi, bn, ci, ce, cl, cs, di, dn⟩ G sets A (h.below hb)
    rw [heavyN_0 hl] at this
    exact this
  have hb0 := Lib.hid B0.below
  replace B0 := Lib.hid B0
  have t0 : w2.cell? ⟨W.heap.size, 0, none⟩ = some (.slice ai G.init.length ci) := B0.out.rt.cell 0
  have t1 : w2.cell? ⟨W.heap.size, 1, none⟩ = some (.slice ae G.edges.length ce) := B0.out.rt.cell 1
  have t2 : w2.cell? ⟨W.heap.size, 2, none⟩ = some (.slice al G.labels.length cl) := B0.out.rt.cell 2
  have t3 : w2.cell? ⟨W.heap.size, 3, none⟩ = some (.slice as_ sets.length cs) := B0.out.rt.cell 3
  have t4 : w2.cell? ⟨W.heap.size, 4, none⟩ = some (.int .i64 A.sets) := B0.out.rt.cell 4
  have t5 : w2.cell? ⟨W.heap.size, 5, none⟩ = some (.slice bi A.init.length di) := B0.out.rt.cell 5
  have t6 : w2.cell? ⟨W.heap.size, 6, none⟩ = some (.slice bn A.nodes.length dn) := B0.out.rt.cell 6
  replace hw2 := Lib.hid hw2
  replace hn1 := Lib.hid hn1.symm
  replace hn2 := Lib.hid hn2.symm
  go_enter Try.func8, Try.ntmps8
  go_upto_region 1 with (fail)
  rw [← hw2.out]
  clear hw2
  go_wp2_with fail
  refine (HV.out _ hb0.out).mono ?_
  rintro e w3 ⟨rfl, hb3⟩
  have BT := B0.out.next hb3
  have f5 : w3.cell? ⟨W.heap.size + 1, 5, none⟩ = some (.slice sa n1 sc) := BT.rf.cell 5
  have f6 : w3.cell? ⟨W.heap.size + 1, 6, none⟩ = some (.slice la n2 lc) := BT.rf.cell 6
  clear t0 t1 t2 t3 t4 t5 t6
  have h20 : (20 : Int) < (n1 : Int) := by have := hn1.out; omega
  clear hs
  go_wp2_with fail
  refine (works_true _).mono ?_
  rintro e w4 ⟨rfl, hb4⟩
  go_wp2
  go_ret
  exact ⟨rfl, btrans hb0.out (btrans hb3 hb4)⟩
set_option maxRecDepth 20000 in
set_option maxHeartbeats 16000000 in
theorem raw_long2 (W : World) (X : RX) (G : GR) (sets : List (List Bool)) (A : AU) (b1 b2 : Int) (h : LawIn W X G sets A) (k9 y9 n9 e9 d9 : Int) (sa la : Option Addr) (sc lc : Nat) (stem loop : List PP) (hl : lightK G sets A = true) (hs : stem.length ≤ 20) (hl2 : 20 < loop.length) :
    Calls Try.prog 8 #[.agg (tcells X G sets A).toArray, .agg #[.int .i64 k9, .int .i64 y9, .int .i64 n9, .int .i64 e9, .int .i64 d9, .slice sa stem.length sc, .slice la loop.length lc], .agg #[.int .i64 b1, .int .i64 b2]] W fun e w' => e = .returned (.bool true) ∧ Below W.heap.size W w' := by
  obtain ⟨ai, ae, al, as_, bi, bn, ci, ce, cl, cs, di, dn⟩ := X
  dsimp only [tcells]
  obtain ⟨n1, hn1⟩ : ∃ n, n = stem.length := ⟨_, rfl⟩
  obtain ⟨n2, hn2⟩ : ∃ n, n = loop.length := ⟨_, rfl⟩
  have B0 := BoxR.start W ⟨ai, ae, al, as_, bi, bn, ci, ce, cl, cs, di, dn⟩ G sets A #[.int .i64 k9, .int .i64 y9, .int .i64 n9, .int .i64 e9, .int .i64 d9, .slice sa stem.length sc, .slice la loop.length lc] b1 b2
  rw [← hn1, ← hn2] at B0 ⊢
  obtain ⟨w2, hw2⟩ : ∃ w2, w2 = ((W.alloc (.cells #[.slice ai G.init.length ci, .slice ae G.edges.length ce, .slice al G.labels.length cl, .slice as_ sets.length cs, .int .i64 A.sets, .slice bi A.init.length di, .slice bn A.nodes.length dn] TTk)).alloc (.cells #[.int .i64 k9, .int .i64 y9, .int .i64 n9, .int .i64 e9, .int .i64 d9, .slice sa n1 sc, .slice la n2 lc] TFd)).alloc (.cells #[.int .i64 b1, .int .i64 b2] TBu) := ⟨_, rfl⟩
  replace B0 : BoxR W ⟨ai, ae, al, as_, bi, bn, ci, ce, cl, cs, di, dn⟩ G sets A [.int .i64 k9, .int .i64 y9, .int .i64 n9, .int .i64 e9, .int .i64 d9, .slice sa n1 sc, .slice la n2 lc] b1 b2 w2 := by rw [hw2]; exact B0
  have HV : Hid (∀ w, Below W.heap.size W w → Calls Try.prog 9 #[.agg #[.slice ai G.init.length ci, .slice ae G.edges.length ce, .slice al G.labels.length cl, .slice as_ sets.length cs, .int .i64 A.sets, .slice bi A.init.length di, .slice bn A.nodes.length dn]] w fun e w' => e = .returned (.int .i64 0) ∧ Below w.heap.size w w') := fun w hb => by
    have := heavy_any w ⟨ai, ae, al, as_, bi, bn, ci, ce, cl, cs, di, dn⟩ G sets A (h.below hb)
    rw [heavyN_0 hl] at this
    exact this
  have hb0 := Lib.hid B0.below
  replace B0 := Lib.hid B0
  have t0 : w2.cell? ⟨W.heap.size, 0, none⟩ = some (.slice ai G.init.length ci) := B0.out.rt.cell 0
  have t1 : w2.cell? ⟨W.heap.size, 1, none⟩ = some (.slice ae G.edges.length ce) := B0.out.rt.cell 1
  have t2 : w2.cell? ⟨W.heap.size, 2, none⟩ = some (.slice al G.labels.length cl) := B0.out.rt.cell 2
  have t3 : w2.cell? ⟨W.heap.size, 3, none⟩ = some (.slice as_ sets.length cs) := B0.out.rt.cell 3
  have t4 : w2.cell? ⟨W.heap.size, 4, none⟩ = some (.int .i64 A.sets) := B0.out.rt.cell 4
  have t5 : w2.cell? ⟨W.heap.size, 5, none⟩ = some (.slice bi A.init.length di) := B0.out.rt.cell 5
  have t6 : w2.cell? ⟨W.heap.size, 6, none⟩ = some (.slice bn A.nodes.length dn) := B0.out.rt.cell 6
  replace hw2 := Lib.hid hw2
  replace hn1 := Lib.hid hn1.symm
  replace hn2 := Lib.hid hn2.symm
  go_enter Try.func8, Try.ntmps8
  go_upto_region 1 with (fail)
  rw [← hw2.out]
  clear hw2
  go_wp2_with fail
  refine (HV.out _ hb0.out).mono ?_
  rintro e w3 ⟨rfl, hb3⟩
  have BT := B0.out.next hb3
  have f5 : w3.cell? ⟨W.heap.size + 1, 5, none⟩ = some (.slice sa n1 sc) := BT.rf.cell 5
  have f6 : w3.cell? ⟨W.heap.size + 1, 6, none⟩ = some (.slice la n2 lc) := BT.rf.cell 6
  clear t0 t1 t2 t3 t4 t5 t6
  have h20 : (n1 : Int) ≤ 20 := by have := hn1.out; omega
  have h21 : (20 : Int) < (n2 : Int) := by have := hn2.out; omega
  clear hs hl2
  go_wp2_with fail
  refine (works_true _).mono ?_
  rintro e w4 ⟨rfl, hb4⟩
  go_wp2
  go_ret
  exact ⟨rfl, btrans hb0.out (btrans hb3 hb4)⟩
/-- two lists told anew, and a box for them -/
structure RawD (base n1 n2 : Nat) (stem loop : List PP) (L : Nat → Bool) (rho : Nat → Value) (w : World) : Prop where
  s : L 2 = true → ∃ a c, rho 2 = .slice a n1 c ∧ OwnR w base TRq 3 a n1 c (qcells stem) ∧ (L 7 = true → ∀ g, rho 7 = .pointer (some ⟨g, 0, none⟩) → (Value.slice a n1 c).ownBlock ≠ some g)
  l : L 5 = true → ∃ a c, rho 5 = .slice a n2 c ∧ OwnR w base TRq 3 a n2 c (qcells loop) ∧ (L 7 = true → ∀ g, rho 7 = .pointer (some ⟨g, 0, none⟩) → (Value.slice a n2 c).ownBlock ≠ some g)
  b : L 7 = true → ∃ g, rho 7 = .pointer (some ⟨g, 0, none⟩) ∧ base ≤ g ∧ RowAt w g TRF [.int .i64 0, .int .i64 0, .int .i64 0, .int .i64 0, .int .i64 0, .slice none 0 0, .slice none 0 0]
  c : L 6 = true → rho 6 = .agg #[.int .i64 0, .int .i64 0, .int .i64 0, .int .i64 0, .int .i64 0, rho 2, rho 5]
section
variable {base n1 n2 : Nat} {stem loop : List PP} {L : Nat → Bool} {rho : Nat → Value} {w w' : World}
theorem RawD.start : RawD base n1 n2 stem loop (fun _ => false) rho w := ⟨fun h => (by cases h), fun h => (by cases h), fun h => (by cases h), fun h => (by cases h)⟩
theorem ownR_below {base e sz n c : Nat} {a : Option Addr} {cs : List Value} (h : OwnR w base e sz a n c cs) (hb : Below w.heap.size w w') : OwnR w' base e sz a n c cs := OwnR.keeps (S := fun _ => False) h (Keeps.of_below hb) (fun _ _ h => h)
theorem RawD.pass {i : Nat} {v : Value} (h : RawD base n1 n2 stem loop L rho w) (h2 : 2 ≠ i) (h5 : 5 ≠ i) (h6 : 6 ≠ i) (h7 : 7 ≠ i) : RawD base n1 n2 stem loop (updB L i) (updV rho i v) w := by
  refine ⟨?_, ?_, ?_, ?_⟩
  · rw [updB_ne h2, updB_ne h7, updV_ne h2, updV_ne h7]; exact h.s
  · rw [updB_ne h5, updB_ne h7, updV_ne h5, updV_ne h7]; exact h.l
  · rw [updB_ne h7, updV_ne h7]; exact h.b
  · rw [updB_ne h6, updV_ne h6, updV_ne h2, updV_ne h5]; exact h.c
theorem RawD.stem_ (h : RawD base n1 n2 stem loop L rho w) (hc : L 6 = true → L 2 = true) (hl : L 2 = false) (hb : Below w.heap.size w w') (hbase : base ≤ w.heap.size) {a : Option Addr} {c : Nat} (ho : OwnR w' w.heap.size TRq 3 a n1 c (qcells stem)) : RawD base n1 n2 stem loop (updB L 2) (updV rho 2 (.slice a n1 c)) w' := by
  have h6 : L 6 = false := by
    cases h9 : L 6 with
    | false => rfl
    | true => rw [hc h9] at hl; cases hl
  refine ⟨fun _ => ⟨a, c, updV_eq _ _, OwnR.base ho hbase, ?_⟩, ?_, ?_, ?_⟩
  · rw [updB_ne (by decide), updV_ne (by decide)]
    intro q g hg e
    obtain ⟨g9, e1, _, r⟩ := h.b q
    rw [hg] at e1
    cases e1
    have := r.lt
    have := (OwnR.lt ho e).1
    omega
  · rw [updB_ne (by decide), updB_ne (by decide), updV_ne (by decide), updV_ne (by decide)]
    intro q
    obtain ⟨a9, c9, e1, e2, e3⟩ := h.l q
    exact ⟨a9, c9, e1, ownR_below e2 hb, e3⟩
  · rw [updB_ne (by decide), updV_ne (by decide)]
    intro q
    obtain ⟨g9, e1, e2, e3⟩ := h.b q
    exact ⟨g9, e1, e2, e3.below hb⟩
  · rw [updB_ne (by decide), h6]
    intro q; cases q
theorem RawD.loop_ (h : RawD base n1 n2 stem loop L rho w) (hc : L 6 = true → L 5 = true) (hl : L 5 = false) (hb : Below w.heap.size w w') (hbase : base ≤ w.heap.size) {a : Option Addr} {c : Nat} (ho : OwnR w' w.heap.size TRq 3 a n2 c (qcells loop)) : RawD base n1 n2 stem loop (updB L 5) (updV rho 5 (.slice a n2 c)) w' := by
  have h6 : L 6 = false := by
    cases h9 : L 6 with
    | false => rfl
    | true => rw [hc h9] at hl; cases hl
  refine ⟨?_, fun _ => ⟨a, c, updV_eq _ _, OwnR.base ho hbase, ?_⟩, ?_, ?_⟩
  · rw [updB_ne (by decide), updB_ne (by decide), updV_ne (by decide), updV_ne (by decide)]
    intro q
    obtain ⟨a9, c9, e1, e2, e3⟩ := h.s q
    exact ⟨a9, c9, e1, ownR_below e2 hb, e3⟩
  · rw [updB_ne (by decide), updV_ne (by decide)]
    intro q g hg e
    obtain ⟨g9, e1, _, r⟩ := h.b q
    rw [hg] at e1
    cases e1
    have := r.lt
    have := (OwnR.lt ho e).1
    omega
  · rw [updB_ne (by decide), updV_ne (by decide)]
    intro q
    obtain ⟨g9, e1, e2, e3⟩ := h.b q
    exact ⟨g9, e1, e2, e3.below hb⟩
  · rw [updB_ne (by decide), h6]
    intro q; cases q
theorem RawD.box_ (h : RawD base n1 n2 stem loop L rho w) (hbase : base ≤ w.heap.size) : RawD base n1 n2 stem loop (updB L 7) (updV rho 7 (.pointer (some ⟨w.heap.size, 0, none⟩))) (w.alloc (.cells #[.int .i64 0, .int .i64 0, .int .i64 0, .int .i64 0, .int .i64 0, .slice none 0 0, .slice none 0 0] TRF)) := by
  refine ⟨?_, ?_, fun _ => ⟨w.heap.size, updV_eq _ _, hbase, RowAt.new #[.int .i64 0, .int .i64 0, .int .i64 0, .int .i64 0, .int .i64 0, .slice none 0 0, .slice none 0 0] rfl⟩, ?_⟩
  · rw [updB_ne (by decide), updV_ne (by decide), updV_eq]
    intro q
    obtain ⟨a9, c9, e1, e2, e3⟩ := h.s q
    refine ⟨a9, c9, e1, OwnR.alloc e2 _, fun _ g hg e => ?_⟩
    cases hg
    have := (OwnR.lt e2 e).2
    omega
  · rw [updB_ne (by decide), updV_ne (by decide), updV_eq]
    intro q
    obtain ⟨a9, c9, e1, e2, e3⟩ := h.l q
    refine ⟨a9, c9, e1, OwnR.alloc e2 _, fun _ g hg e => ?_⟩
    cases hg
    have := (OwnR.lt e2 e).2
    omega
  · rw [updB_ne (by decide), updV_ne (by decide), updV_ne (by decide), updV_ne (by decide)]
    exact h.c
theorem RawD.pair_ (h : RawD base n1 n2 stem loop L rho w) : RawD base n1 n2 stem loop (updB L 6) (updV rho 6 (.agg #[.int .i64 0, .int .i64 0, .int .i64 0, .int .i64 0, .int .i64 0, rho 2, rho 5])) w := by
  refine ⟨?_, ?_, ?_, fun _ => ?_⟩
  · rw [updB_ne (by decide), updB_ne (by decide), updV_ne (by decide), updV_ne (by decide)]; exact h.s
  · rw [updB_ne (by decide), updB_ne (by decide), updV_ne (by decide), updV_ne (by decide)]; exact h.l
  · rw [updB_ne (by decide), updV_ne (by decide)]; exact h.b
  · rw [updV_eq, updV_ne (by decide), updV_ne (by decide)]
end
/-- numbers that lie apart from a box -/
def Apart (a : Option Addr) (n g : Nat) : Prop := 0 < n → ∀ ad : Addr, a = some ad → ad.block ≠ g
theorem NumsNew.lt {base : Nat} {w : World} {a : Option Addr} {l : List Int} (h : NumsNew base w a l) (h0 : 0 < l.length) {ad : Addr} (had : a = some ad) : base ≤ ad.block ∧ ad.block < w.heap.size := by
  obtain ⟨b, o, ha, hc⟩ := h.1 h0
  refine ⟨h.2 ad had, ?_⟩
  rw [had] at ha
  cases ha
  exact World.block_lt_of_cell? w _ (hc 0 h0)
theorem NumsAt.apart {w w' : World} {a : Option Addr} {l : List Int} {g : Nat} (h : NumsAt .i64 w a l) (hk : Keeps w w' (fun j => j = g)) (hn : Apart a l.length g) : NumsAt .i64 w' a l := by
  by_cases h0 : 0 < l.length
  · exact h.keeps hk (fun ad had e => hn h0 ad had e)
  · intro h1; exact absurd h1 h0
/-- two lassos told, and two boxes for them -/
structure LasD (base n1 n2 : Nat) (st lo : List Int) (L : Nat → Bool) (rho : Nat → Value) (w : World) : Prop where
  p : ∀ i, i = 1 ∨ i = 3 → L i = true → ∃ a c a2 c2, rho i = .agg #[.slice a n1 c, .slice a2 n2 c2] ∧ NumsNew base w a st ∧ NumsNew base w a2 lo ∧ ∀ j, j = 4 ∨ j = 5 → L j = true → ∀ g, rho j = .pointer (some ⟨g, 0, none⟩) → Apart a n1 g ∧ Apart a2 n2 g
  b : ∀ i, i = 4 ∨ i = 5 → L i = true → ∃ g, rho i = .pointer (some ⟨g, 0, none⟩) ∧ base ≤ g ∧ RowAt w g 57 [.slice none 0 0, .slice none 0 0]
  d : L 4 = true → L 5 = true → rho 4 ≠ rho 5
section
variable {base n1 n2 : Nat} {st lo : List Int} {L : Nat → Bool} {rho : Nat → Value} {w w' : World}
theorem LasD.start : LasD base n1 n2 st lo (fun _ => false) rho w := ⟨fun _ _ h => (by cases h), fun _ _ h => (by cases h), fun h => (by cases h)⟩
theorem LasD.pass {i : Nat} {v : Value} (h : LasD base n1 n2 st lo L rho w) (h1 : 1 ≠ i) (h3 : 3 ≠ i) (h4 : 4 ≠ i) (h5 : 5 ≠ i) : LasD base n1 n2 st lo (updB L i) (updV rho i v) w := by
  refine ⟨fun k hk => ?_, fun k hk => ?_, ?_⟩
  · have hki : k ≠ i := by rcases hk with rfl | rfl <;> assumption
    rw [updB_ne hki, updV_ne hki]
    intro q
    obtain ⟨a, c, a2, c2, e1, e2, e3, e4⟩ := h.p k hk q
    refine ⟨a, c, a2, c2, e1, e2, e3, fun j hj => ?_⟩
    have hji : j ≠ i := by rcases hj with rfl | rfl <;> assumption
    rw [updB_ne hji, updV_ne hji]
    exact e4 j hj
  · have hki : k ≠ i := by rcases hk with rfl | rfl <;> assumption
    rw [updB_ne hki, updV_ne hki]
    exact h.b k hk
  · rw [updB_ne h4, updB_ne h5, updV_ne h4, updV_ne h5]; exact h.d
theorem LasD.call_ (h : LasD base n1 n2 st lo L rho w) {i : Nat} (hi : i = 1 ∨ i = 3) (hb : Below w.heap.size w w') (hbase : base ≤ w.heap.size) (hn1 : st.length = n1) (hn2 : lo.length = n2) {a a2 : Option Addr} {c c2 : Nat} (h1 : NumsNew w.heap.size w' a st) (h2 : NumsNew w.heap.size w' a2 lo) : LasD base n1 n2 st lo (updB L i) (updV rho i (.agg #[.slice a n1 c, .slice a2 n2 c2])) w' := by
  have far : ∀ j, j = 4 ∨ j = 5 → j ≠ i := fun j hj => by rcases hi with rfl | rfl <;> rcases hj with rfl | rfl <;> decide
  refine ⟨fun k hk => ?_, fun k hk => ?_, ?_⟩
  · by_cases hki : k = i
    · subst hki
      intro _
      refine ⟨a, c, a2, c2, updV_eq _ _, ⟨h1.1, fun ad had => Nat.le_trans hbase (h1.2 ad had)⟩, ⟨h2.1, fun ad had => Nat.le_trans hbase (h2.2 ad had)⟩, fun j hj => ?_⟩
      rw [updB_ne (far j hj), updV_ne (far j hj)]
      intro q g hg
      obtain ⟨g9, e1, _, r⟩ := h.b j hj q
      rw [hg] at e1
      cases e1
      have := r.lt
      exact ⟨fun _ ad had e => (by have := h1.2 ad had; omega), fun _ ad had e => (by have := h2.2 ad had; omega)⟩
    · rw [updB_ne hki, updV_ne hki]
      intro q
      obtain ⟨a9, c9, a8, c8, e1, e2, e3, e4⟩ := h.p k hk q
      refine ⟨a9, c9, a8, c8, e1, ⟨e2.1.below hb, e2.2⟩, ⟨e3.1.below hb, e3.2⟩, fun j hj => ?_⟩
      rw [updB_ne (far j hj), updV_ne (far j hj)]
      exact e4 j hj
  · rw [updB_ne (far k hk), updV_ne (far k hk)]
    intro q
    obtain ⟨g9, e1, e2, e3⟩ := h.b k hk q
    exact ⟨g9, e1, e2, e3.below hb⟩
  · rw [updB_ne (far 4 (.inl rfl)), updB_ne (far 5 (.inr rfl)), updV_ne (far 4 (.inl rfl)), updV_ne (far 5 (.inr rfl))]; exact h.d
theorem LasD.box_ (h : LasD base n1 n2 st lo L rho w) {i : Nat} (hi : i = 4 ∨ i = 5) (hbase : base ≤ w.heap.size) (hn1 : st.length = n1) (hn2 : lo.length = n2) : LasD base n1 n2 st lo (updB L i) (updV rho i (.pointer (some ⟨w.heap.size, 0, none⟩))) (w.alloc (.cells #[.slice none 0 0, .slice none 0 0] 57)) := by
  have hb : Below w.heap.size w (w.alloc (.cells #[.slice none 0 0, .slice none 0 0] 57)) := balloc (Below.refl _ _) _
  have far : ∀ j, j = 1 ∨ j = 3 → j ≠ i := fun j hj => by rcases hi with rfl | rfl <;> rcases hj with rfl | rfl <;> decide
  refine ⟨fun k hk => ?_, fun k hk => ?_, ?_⟩
  · rw [updB_ne (far k hk), updV_ne (far k hk)]
    intro q
    obtain ⟨a9, c9, a8, c8, e1, e2, e3, e4⟩ := h.p k hk q
    refine ⟨a9, c9, a8, c8, e1, ⟨e2.1.below hb, e2.2⟩, ⟨e3.1.below hb, e3.2⟩, fun j hj => ?_⟩
    by_cases hji : j = i
    · subst hji
      rw [updV_eq]
      intro _ g hg
      cases hg
      exact ⟨fun h0 ad had e => (by have := (e2.lt (by omega) had).2; omega), fun h0 ad had e => (by have := (e3.lt (by omega) had).2; omega)⟩
    · rw [updB_ne hji, updV_ne hji]
      exact e4 j hj
  · by_cases hki : k = i
    · subst hki
      intro _
      exact ⟨w.heap.size, updV_eq _ _, hbase, RowAt.new #[.slice none 0 0, .slice none 0 0] rfl⟩
    · rw [updB_ne hki, updV_ne hki]
      intro q
      obtain ⟨g9, e1, e2, e3⟩ := h.b k hk q
      exact ⟨g9, e1, e2, e3.below hb⟩
  · rcases hi with rfl | rfl
    · rw [updB_ne (show 5 ≠ 4 by decide), updV_eq, updV_ne (show 5 ≠ 4 by decide)]
      intro _ q e
      obtain ⟨g9, e1, _, r⟩ := h.b 5 (.inr rfl) q
      rw [← e] at e1
      cases e1
      have := r.lt
      omega
    · rw [updB_ne (show 4 ≠ 5 by decide), updV_eq, updV_ne (show 4 ≠ 5 by decide)]
      intro q _ e
      obtain ⟨g9, e1, _, r⟩ := h.b 4 (.inl rfl) q
      rw [e] at e1
      cases e1
      have := r.lt
      omega
end
/-- two lists of numbers, as a value -/
def Kp.two (x : List Int × List Int) : Kp := ⟨fun v w => ∃ a c a2 c2, v = .tuple #[.slice a x.1.length c, .slice a2 x.2.length c2] ∧ NumsAt .i64 w a x.1 ∧ NumsAt .i64 w a2 x.2, fun v w w' h hb => by
  obtain ⟨a, c, a2, c2, h1, h2, h3⟩ := h
  exact ⟨a, c, a2, c2, h1, h2.below hb, h3.below hb⟩⟩
def Kp.nums (x : List Int) : Kp := ⟨fun v w => ∃ a c, v = .slice a x.length c ∧ NumsAt .i64 w a x, fun v w w' h hb => by
  obtain ⟨a, c, h1, h2⟩ := h
  exact ⟨a, c, h1, h2.below hb⟩⟩
def Kp.src (G : GR) (sets : List (List Bool)) : Kp := ⟨fun v w => SrcV w G sets v, fun _ _ _ h hb => SrcV.below h hb⟩
def Kp.new (G : GR) (sets : List (List Bool)) (A : AU) : Kp := ⟨fun v w => NewV w G sets A v, fun _ _ _ h hb => NewV.below h hb⟩
end Go.Proofs.Ytfcpfcgcfaacnaa
