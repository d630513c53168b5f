/- The document's acts of a finding. Conditions: the document's product and the finding in memory, the pairs few. -/
import Derived.Test.YtfcpfcgcfaacnaaSNdPlain
import Derived.Test.YtfcpfcgcfaacnaaSNdAp2
import Derived.Test.YtfcpfcgcfaacnaaSNdActs2
import Derived.Test.YtfcpfcgcfaacnaaSPrLawIn
import Derived.Test.YtfcpfcgcfaacnaaSNdLaw
import Derived.BigRegion
import Derived.IntWalk
import Derived.Test.YtfcpfcgcfaacnaaSCut
namespace Go.Proofs.Ytfcpfcgcfaacnaa
open Go.RowKit
theorem frame66 (arr : Array Value) (h : arr.size = 66) : ∃ q : Nat → Value, arr = #[q 0, q 1, q 2, q 3, q 4, q 5, q 6, q 7, q 8, q 9, q 10, q 11, q 12, q 13, q 14, q 15, q 16, q 17, q 18, q 19, q 20, q 21, q 22, q 23, q 24, q 25, q 26, q 27, q 28, q 29, q 30, q 31, q 32, q 33, q 34, q 35, q 36, q 37, q 38, q 39, q 40, q 41, q 42, q 43, q 44, q 45, q 46, q 47, q 48, q 49, q 50, q 51, q 52, q 53, q 54, q 55, q 56, q 57, q 58, q 59, q 60, q 61, q 62, q 63, q 64, q 65] := by
 refine ⟨fun i => arr.toList.getD i undef, ?_⟩
 have h1 := list_getP (l := arr.toList) (n := 66) (by simpa using h)
 apply Array.ext'
 exact h1
structure BoxD (base T : Nat) (z c : List Value) (ia is : Nat) (L : Nat → Bool) (rho : Nat → Value) (w : World) : Prop where
 b : L ia = true → ∃ g, rho ia = .pointer (some ⟨g, 0, none⟩) ∧ base ≤ g ∧ RowAt w g T (if L is = true then c else z)
theorem BoxD.start {base T : Nat} {z c : List Value} {ia is : Nat} (rho : Nat → Value) (w : World) : BoxD base T z c ia is (fun _ => false) rho w := ⟨fun h => (by cases h)⟩
theorem BoxD.pass {base T : Nat} {z c : List Value} {ia is : Nat} {L : Nat → Bool} {rho : Nat → Value} {w w' : World} (h : BoxD base T z c ia is L rho w) {i : Nat} {v : Value} (ha : ia ≠ i) (hs : is ≠ i) (hb : Below w.heap.size w w') : BoxD base T z c ia is (updB L i) (updV rho i v) w' := by
 refine ⟨?_⟩
 rw [updB_ne ha, updB_ne hs, updV_ne ha]
 intro h1
 obtain ⟨g, q1, q2, q3⟩ := h.b h1
 exact ⟨g, q1, q2, q3.below hb⟩
theorem BoxD.made {base T : Nat} {z c : List Value} {ia is : Nat} {L : Nat → Bool} {rho : Nat → Value} {w : World} (hb : base ≤ w.heap.size) (hne : is ≠ ia) (hl : L ia = false) (hc : L is = true → L ia = true) (za : Array Value) (hz : za.toList = z) : BoxD base T z c ia is (updB L ia) (updV rho ia (.pointer (some ⟨w.heap.size, 0, none⟩))) (w.alloc (.cells za T)) := by
 refine ⟨fun _ => ⟨w.heap.size, updV_eq _ _, hb, ?_⟩⟩
 rw [updB_ne hne]
 have hs : L is = false := by
  cases h9 : L is with
  | false => rfl
  | true => rw [hc h9] at hl; cases hl
 rw [hs, ← hz]
 exact RowAt.new za rfl
theorem edge_cells (E : Option PR) : ∃ u v : Int, edv E = .agg #[.int .i64 u, .int .i64 v] ∧ ∀ a, E.map (·.2) = some a → v = a := by
 cases E with
 | none => exact ⟨0, 0, rfl, fun a h => by cases h⟩
 | some e => exact ⟨e.1, e.2, rfl, fun a h => by simpa using h⟩
theorem two_of_one (E : PP → PP → Option Int) (stem loop : List PP) (z : PP) (r : List PP) (hl : loop = z :: r) : lassoActs E stem loop = match chain E (stem ++ loop ++ [z]) with
  | none => ([], [])
  | some xs => (xs.take stem.length, xs.drop stem.length) := by
 have e1 : stem ++ loop ++ [z] = stem ++ z :: (r ++ [z]) := by rw [hl]; simp
 have e2 : loop ++ [z] = z :: (r ++ [z]) := by rw [hl]; simp
 have hlen : ∀ l : List PP, ∀ y : PP, ∀ xs, chain E (l ++ [y]) = some xs → xs.length = l.length := by
  intro l
  induction l with
  | nil => intro y xs h; simp only [List.nil_append, chain] at h; cases h; rfl
  | cons a l ih =>
   intro y xs h
   cases l with
   | nil =>
    simp only [List.cons_append, List.nil_append, chain] at h
    cases hE : E a y with
    | none => rw [hE] at h; cases h
    | some v => rw [hE] at h; cases h; rfl
   | cons b l =>
    simp only [List.cons_append, chain] at h
    cases hE : E a b with
    | none => rw [hE] at h; cases h
    | some v =>
     rw [hE] at h
     simp only at h
     cases hc : chain E (b :: (l ++ [y])) with
     | none => rw [hc] at h; cases h
     | some ys =>
      rw [hc] at h
      cases h
      have := ih y ys (by rw [List.cons_append]; exact hc)
      simp [this]
 have hla : lassoActs E stem loop = bothO (chain E (stem ++ [z])) (chain E (loop ++ [z])) := by rw [hl]; rfl
 rw [hla, e1, chain_append E stem z (r ++ [z]), ← e2]
 cases h1 : chain E (stem ++ [z]) with
 | none => rfl
 | some xs =>
  have hx := hlen stem z xs h1
  cases h2 : chain E (loop ++ [z]) with
  | none => rfl
  | some ys =>
   show (xs, ys) = ((xs ++ ys).take stem.length, (xs ++ ys).drop stem.length)
   rw [← hx, List.take_left', List.drop_left'] <;> rfl
set_option maxRecDepth 20000 in
set_option maxHeartbeats 8000000 in
theorem racts_none (W : World) (ai ae al as_ bi bn : Option Addr) (ci ce cl cs di dn : Nat) (G : GR) (sets : List (List Bool)) (A : AU) (k9 y9 n9 e9 d9 : Int) (sa la : Option Addr) (sc lc : Nat) (stem : List PP) :
  Calls Try.prog 19 #[.agg #[.slice ai G.init.length ci, .slice ae G.edges.length ce, .slice al G.labels.length cl, .slice as_ sets.length cs, .int .i64 A.sets, .slice bi A.init.length di, .slice bn A.nodes.length dn], .agg #[.int .i64 k9, .int .i64 y9, .int .i64 n9, .int .i64 e9, .int .i64 d9, .slice sa stem.length sc, .slice la 0 lc]] W fun e w' => e = .returned (.tuple #[.slice none 0 0, .slice none 0 0]) ∧ Below W.heap.size W w' := by
 have hb := balloc (balloc (Below.refl W.heap.size W) (.cells #[.slice ai G.init.length ci, .slice ae G.edges.length ce, .slice al G.labels.length cl, .slice as_ sets.length cs, .int .i64 A.sets, .slice bi A.init.length di, .slice bn A.nodes.length dn] TRP)) (.cells #[.int .i64 k9, .int .i64 y9, .int .i64 n9, .int .i64 e9, .int .i64 d9, .slice sa stem.length sc, .slice la 0 lc] TRF)
 replace hb := Lib.hid hb
 go_enter Try.func19, Try.ntmps19
 go_wp2
 refine bodyPost_ret (v := .tuple #[.slice none 0 0, .slice none 0 0]) (by simp [results, Try.results19, go_sem]) rfl ⟨rfl, hb.out⟩
theorem chain_one {E : PP → PP → Option Int} {l : List PP} {m : Nat} (h : l.length = m + 1) : chain E (l.take (0 + 1)) = some [] := by
 cases l with
 | nil => simp at h
 | cons x l => rfl
theorem chain_step {E : PP → PP → Option Int} {l : List PP} {k : Nat} {xs : List Int} (hk : k + 1 < l.length) (h : chain E (l.take (k + 1)) = some xs) : chain E (l.take (k + 2)) = match E l[k] l[k + 1] with
  | none => none
  | some a => some (xs ++ [a]) := by
 rw [take_two hk, chain_snoc, ← take_one (Nat.lt_of_succ_lt hk), h]
 rfl
set_option maxRecDepth 20000 in
set_option maxHeartbeats 16000000 in
theorem racts_some (W : World) (ai ae al as_ bi bn : Option Addr) (ci ce cl cs di dn : Nat) (G : GR) (sets : List (List Bool)) (A : AU) (h : RpA W ⟨ai, ae, al, as_, bi, bn, ci, ce, cl, cs, di, dn⟩ G sets A) (k9 y9 n9 e9 d9 : Int) (sa la : Option Addr) (sc lc : Nat) (stem loop : List PP) (z : PP) (r : List PP) (hlz : loop = z :: r) (ps : PpsAt W sa stem) (pl : PpsAt W la loop) (hs : stem.length ≤ 1000000) (hl : loop.length ≤ 1000000) :
  Calls Try.prog 19 #[.agg #[.slice ai G.init.length ci, .slice ae G.edges.length ce, .slice al G.labels.length cl, .slice as_ sets.length cs, .int .i64 A.sets, .slice bi A.init.length di, .slice bn A.nodes.length dn], .agg #[.int .i64 k9, .int .i64 y9, .int .i64 n9, .int .i64 e9, .int .i64 d9, .slice sa stem.length sc, .slice la loop.length lc]] W fun e w' => Below W.heap.size W w' ∧ TwoAt w' e (lassoActs (ndAct G sets A) stem loop) := by
 have h0 : 0 < loop.length := by rw [hlz]; simp
 obtain ⟨lb, lo, rfl, hlb, z0, z1, z2⟩ := pl.at 0 h0
 have hz : loop[0] = z := by simp only [hlz]; rfl
 rw [hz] at z0 z1 z2
 simp only [Nat.zero_mul, Nat.add_zero] at z0 z1 z2
 obtain ⟨res, hres⟩ : ∃ res, res = lassoActs (ndAct G sets A) stem loop := ⟨_, rfl⟩
 rw [← hres]
 rw [two_of_one _ _ _ z r hlz] at hres
 obtain ⟨n1, hn1⟩ : ∃ n, n = stem.length := ⟨_, rfl⟩
 obtain ⟨n2, hn2⟩ : ∃ n, n = loop.length := ⟨_, rfl⟩
 rw [← hn1, ← hn2]
 have hn20 : 0 < n2 := by omega
 have hb12 : n1 + n2 ≤ 2000000 := by omega
 obtain ⟨w1, hw1⟩ : ∃ w1, w1 = (W.alloc (.cells #[.slice ai G.init.length ci, .slice ae G.edges.length ce, .slice al G.labels.length cl, .slice as_ sets.length cs, .int .i64 A.sets, .slice bi A.init.length di, .slice bn A.nodes.length dn] TRP)).alloc (.cells #[.int .i64 k9, .int .i64 y9, .int .i64 n9, .int .i64 e9, .int .i64 d9, .slice sa n1 sc, .slice (some ⟨lb, lo, none⟩) n2 lc] TRF) := ⟨_, rfl⟩
 have hbW : Below W.heap.size W w1 := by rw [hw1]; exact balloc (balloc (Below.refl _ _) _) _
 obtain ⟨pb, hpb⟩ : ∃ pb, pb = W.heap.size := ⟨_, rfl⟩
 obtain ⟨fb, hfb⟩ : ∃ fb, fb = W.heap.size + 1 := ⟨_, rfl⟩
 have rp1 : RowAt w1 pb TRP [.slice ai G.init.length ci, .slice ae G.edges.length ce, .slice al G.labels.length cl, .slice as_ sets.length cs, .int .i64 A.sets, .slice bi A.init.length di, .slice bn A.nodes.length dn] := by rw [hw1, hpb]; exact (RowAt.new #[.slice ai G.init.length ci, .slice ae G.edges.length ce, .slice al G.labels.length cl, .slice as_ sets.length cs, .int .i64 A.sets, .slice bi A.init.length di, .slice bn A.nodes.length dn] rfl).alloc _
 have rf1 : RowAt w1 fb TRF [.int .i64 k9, .int .i64 y9, .int .i64 n9, .int .i64 e9, .int .i64 d9, .slice sa n1 sc, .slice (some ⟨lb, lo, none⟩) n2 lc] := by rw [hw1, hfb]; exact RowAt.new #[.int .i64 k9, .int .i64 y9, .int .i64 n9, .int .i64 e9, .int .i64 d9, .slice sa n1 sc, .slice (some ⟨lb, lo, none⟩) n2 lc] (by simp)
 have ps1 := Lib.hid (ps.below hbW)
 have pl1 := Lib.hid (pl.below hbW)
 have RP1 := Lib.hid (h.below hbW)
 replace z0 := Lib.hid (bcell hbW z0)
 replace z1 := Lib.hid (bcell hbW z1)
 replace z2 := Lib.hid (bcell hbW z2)
 have f6 : w1.cell? ⟨fb, 6, none⟩ = some (.slice (some ⟨lb, lo, none⟩) n2 lc) := rf1.cell 6
 have hn0b : ((n2 : Int) == 0) = false := by simp; omega
 have hn0n : ¬ n2 = 0 := by omega
 replace rp1 := Lib.hid rp1
 replace rf1 := Lib.hid rf1
 replace hw1 := Lib.hid hw1
 replace hpb := Lib.hid hpb
 replace hfb := Lib.hid hfb
 replace hres := Lib.hid hres
 replace hn1 := Lib.hid hn1.symm
 replace hn2 := Lib.hid hn2.symm
 replace hb12 := Lib.hid hb12
 replace hn20 := Lib.hid hn20
 replace hbW := Lib.hid hbW
 clear h ps pl hs hl h0 hz hlz hlb
 go_enter Try.func19, Try.ntmps19
 go_upto_region 1 with (fail)
 rw [← hw1.out, ← hfb.out, ← hpb.out]
 clear hw1 hpb hfb
 go_upto_region 3 with (fail)
 clear hn0b hn0n f6
 refine wp_region_dyn (by kernel_rfl) 12 (fun w' => Below w1.heap.size w1 w') (fun i => ([none, some (.pointer (some ⟨fb, 5, none⟩)), some (.slice sa n1 sc), none, some (.pointer (some ⟨fb, 6, none⟩)), some (.slice (some ⟨lb, lo, none⟩) n2 lc), none, some (.pointer (some ⟨fb, 6, none⟩)), some (.slice (some ⟨lb, lo, none⟩) n2 lc), some (.pointer (some ⟨lb, lo, none⟩)), some (.agg #[.int .i64 z.node, .int .i64 z.state, .int .i64 z.turn]), none] : List (Option Value)).getD i none) (fun i => ([true, false, false, true, false, false, true, false, false, false, false, true] : List Bool).getD i false) (Ap3 w1.heap.size TRq 3 n1 (n1 + n2) (qcells stem) (qcells stem ++ qcells loop) [.int .i64 z.node, .int .i64 z.state, .int .i64 z.turn] 0 3 6 11) (by kernel_rfl) (by kernel_rfl) (by kernel_rfl) (Below.refl _ _).drew (fun rho => Ap3.start rho _) ?_ ?_ ?_
 ·intro i hi hdy
  match i, hi, hdy with
  | 0, _, hdy => exact znF hdy
  | 1, _, _ =>
   refine ⟨_, rfl, fun L rho w h => h.pass (by decide) (by decide) (by decide) (by decide), ?_⟩
   intro o ho ac w' hR hF hX
   simp only [zqA, zqZ, zqS, zqI] at ho
   subst ho
   refine ⟨fun h => (by cases h), fun K hK => ?_⟩
   have e3 : ac.tmps.getD 3 undef = .pointer (some ⟨fb, 0, none⟩) := hF 3 (znd (by kernel_rfl))
   have d3 := zgD e3
   clear hX hF
   go_simp
   exact hK
  | 2, _, _ =>
   refine ⟨_, rfl, fun L rho w h => h.pass (by decide) (by decide) (by decide) (by decide), ?_⟩
   intro o ho ac w' hR hF hX
   simp only [zqA, zqZ, zqS, zqI] at ho
   subst ho
   refine ⟨fun h => (by cases h), fun K hK => ?_⟩
   have e16 : ac.tmps.getD 16 undef = .pointer (some ⟨fb, 5, none⟩) := hX 1 (zdp (by kernel_rfl)) _ rfl
   have d16 := zgD e16
   have c0 : w'.cell? ⟨fb, 5, none⟩ = some (.slice sa n1 sc) := (rf1.out.below hR).cell 5
   clear hX hF
   go_simp
   exact hK
  | 3, _, hdy => exact znF hdy
  | 4, _, _ =>
   refine ⟨_, rfl, fun L rho w h => h.pass (by decide) (by decide) (by decide) (by decide), ?_⟩
   intro o ho ac w' hR hF hX
   simp only [zqA, zqZ, zqS, zqI] at ho
   subst ho
   refine ⟨fun h => (by cases h), fun K hK => ?_⟩
   have e3 : ac.tmps.getD 3 undef = .pointer (some ⟨fb, 0, none⟩) := hF 3 (znd (by kernel_rfl))
   have d3 := zgD e3
   clear hX hF
   go_simp
   exact hK
  | 5, _, _ =>
   refine ⟨_, rfl, fun L rho w h => h.pass (by decide) (by decide) (by decide) (by decide), ?_⟩
   intro o ho ac w' hR hF hX
   simp only [zqA, zqZ, zqS, zqI] at ho
   subst ho
   refine ⟨fun h => (by cases h), fun K hK => ?_⟩
   have e19 : ac.tmps.getD 19 undef = .pointer (some ⟨fb, 6, none⟩) := hX 4 (zdp (by kernel_rfl)) _ rfl
   have d19 := zgD e19
   have c0 : w'.cell? ⟨fb, 6, none⟩ = some (.slice (some ⟨lb, lo, none⟩) n2 lc) := (rf1.out.below hR).cell 6
   clear hX hF
   go_simp
   exact hK
  | 6, _, hdy => exact znF hdy
  | 7, _, _ =>
   refine ⟨_, rfl, fun L rho w h => h.pass (by decide) (by decide) (by decide) (by decide), ?_⟩
   intro o ho ac w' hR hF hX
   simp only [zqA, zqZ, zqS, zqI] at ho
   subst ho
   refine ⟨fun h => (by cases h), fun K hK => ?_⟩
   have e3 : ac.tmps.getD 3 undef = .pointer (some ⟨fb, 0, none⟩) := hF 3 (znd (by kernel_rfl))
   have d3 := zgD e3
   clear hX hF
   go_simp
   exact hK
  | 8, _, _ =>
   refine ⟨_, rfl, fun L rho w h => h.pass (by decide) (by decide) (by decide) (by decide), ?_⟩
   intro o ho ac w' hR hF hX
   simp only [zqA, zqZ, zqS, zqI] at ho
   subst ho
   refine ⟨fun h => (by cases h), fun K hK => ?_⟩
   have e22 : ac.tmps.getD 22 undef = .pointer (some ⟨fb, 6, none⟩) := hX 7 (zdp (by kernel_rfl)) _ rfl
   have d22 := zgD e22
   have c0 : w'.cell? ⟨fb, 6, none⟩ = some (.slice (some ⟨lb, lo, none⟩) n2 lc) := (rf1.out.below hR).cell 6
   clear hX hF
   go_simp
   exact hK
  | 9, _, _ =>
   refine ⟨_, rfl, fun L rho w h => h.pass (by decide) (by decide) (by decide) (by decide), ?_⟩
   intro o ho ac w' hR hF hX
   simp only [zqA, zqZ, zqS, zqI] at ho
   subst ho
   refine ⟨fun h => (by cases h), fun K hK => ?_⟩
   have e23 : ac.tmps.getD 23 undef = .slice (some ⟨lb, lo, none⟩) n2 lc := hX 8 (zdp (by kernel_rfl)) _ rfl
   have d23 := zgD e23
   have h02 : (0 : Int) < (n2 : Int) := by have := hn20.out; omega
   have h02n : 0 < n2 := hn20.out
   clear hX hF
   go_simp
   exact hK
  | 10, _, _ =>
   refine ⟨_, rfl, fun L rho w h => h.pass (by decide) (by decide) (by decide) (by decide), ?_⟩
   intro o ho ac w' hR hF hX
   simp only [zqA, zqZ, zqS, zqI] at ho
   subst ho
   refine ⟨fun h => (by cases h), fun K hK => ?_⟩
   have e24 : ac.tmps.getD 24 undef = .pointer (some ⟨lb, lo, none⟩) := hX 9 (zdp (by kernel_rfl)) _ rfl
   have d24 := zgD e24
   have c0 : w'.cell? ⟨lb, lo, none⟩ = some (.int .i64 z.node) := bcell hR z0.out
   have c1 : w'.cell? ⟨lb, lo + 1, none⟩ = some (.int .i64 z.state) := bcell hR z1.out
   have c2 : w'.cell? ⟨lb, lo + 2, none⟩ = some (.int .i64 z.turn) := bcell hR z2.out
   clear hX hF
   go_simp
   exact hK
  | 11, _, hdy => exact znF hdy
  | k + 12, hk, _ => omega
 ·intro i hi hdy
  match i, hi, hdy with
  | 0, _, _ =>
   intro o ho ac w' L rho hR hD hl hc hdep hX hF K hK
   simp only [zqA, zqZ, zqI] at ho
   subst ho
   go_simp
   refine hK _ _ (balloc hR _) (fun h => by cases h) (fun u h => by cases h) ?_
   exact hD.zero hR.size (by decide) (by decide) (by decide) (fun h => hc 3 h 0 (zdp (by kernel_rfl))) (fun h => hc 6 h 3 (zdp (by kernel_rfl))) hl
  | 1, _, hdy => exact znT hdy
  | 2, _, hdy => exact znT hdy
  | 3, _, _ =>
   intro o ho ac w' L rho hR hD hl hc hdep hX hF K hK
   simp only [zqA, zqZ, zqS, zqI] at ho
   subst ho
   have r15 : ac.tmps.getD 15 undef = rho 0 := (hdep 0 (zdp (by kernel_rfl))).2
   have e17 : ac.tmps.getD 17 undef = .slice sa n1 sc := hX 2 (zdp (by kernel_rfl)) _ rfl
   have d17 := zgD e17
   have hl0 := (hdep 0 (zdp (by kernel_rfl))).1
   obtain ⟨a0, c0, e1, e2, _⟩ := hD.z hl0 hl
   rw [e1] at r15
   refine step_appG rfl _ _ 52 TRq (.agg #[.int .i64 0, .int .i64 0, .int .i64 0]) 3 24 rfl Try.underlying52 infoRq rfl (by decide) w1.heap.size a0 0 c0 [] r15 e2 sa n1 sc (qcells stem) e17 (by rw [qcells_len, hn1.out]) (SrcAt.pps (ps1.out.below hR)) (qcells_one stem) (by have := hb12.out; unfold maxLen; omega) (by have := hb12.out; omega) hR.size ?_
   intro a' c' w2 ho hg hat
   simp only [Nat.zero_add, List.nil_append] at ho hg hat ⊢
   refine hK _ _ (bgrown hR hg (fun j hj => (OwnR.lt e2 hj).1)) (fun h => by cases h) (fun u h => by cases h) ?_
   exact hD.src1 (by decide) (by decide) (by decide) e1 hl0 hl (fun h => hc 6 h 3 (zdp (by kernel_rfl))) ho hg hat
  | 4, _, hdy => exact znT hdy
  | 5, _, hdy => exact znT hdy
  | 6, _, _ =>
   intro o ho ac w' L rho hR hD hl hc hdep hX hF K hK
   simp only [zqA, zqZ, zqS, zqI] at ho
   subst ho
   have r18 : ac.tmps.getD 18 undef = rho 3 := (hdep 3 (zdp (by kernel_rfl))).2
   have e20 : ac.tmps.getD 20 undef = .slice (some ⟨lb, lo, none⟩) n2 lc := hX 5 (zdp (by kernel_rfl)) _ rfl
   have d20 := zgD e20
   have hl1 := (hdep 3 (zdp (by kernel_rfl))).1
   obtain ⟨a0, c0, e1, e2, _⟩ := hD.y hl1 hl
   rw [e1] at r18
   refine step_appG rfl _ _ 52 TRq (.agg #[.int .i64 0, .int .i64 0, .int .i64 0]) 3 24 rfl Try.underlying52 infoRq rfl (by decide) w1.heap.size a0 n1 c0 (qcells stem) r18 e2 (some ⟨lb, lo, none⟩) n2 lc (qcells loop) e20 (by rw [qcells_len, hn2.out]) (SrcAt.pps (pl1.out.below hR)) (qcells_one loop) (by have := hb12.out; unfold maxLen; omega) (by have := hb12.out; omega) hR.size ?_
   intro a' c' w2 ho hg hat
   refine hK _ _ (bgrown hR hg (fun j hj => (OwnR.lt e2 hj).1)) (fun h => by cases h) (fun u h => by cases h) ?_
   exact hD.src2 (by decide) (by decide) (by decide) e1 hl1 hl ho hg hat
  | 7, _, hdy => exact znT hdy
  | 8, _, hdy => exact znT hdy
  | 9, _, hdy => exact znT hdy
  | 10, _, hdy => exact znT hdy
  | 11, _, _ =>
   intro o ho ac w' L rho hR hD hl hc hdep hX hF K hK
   simp only [zqA, zqZ, zqS, zqI] at ho
   subst ho
   have e25 : ac.tmps.getD 25 undef = .agg #[.int .i64 z.node, .int .i64 z.state, .int .i64 z.turn] := hX 10 (zdp (by kernel_rfl)) _ rfl
   have d25 := zgD e25
   go_simp
   refine hK _ _ (balloc hR _) (fun h => by cases h) (fun u h => by cases h) ?_
   exact hD.elem hR.size (by decide) (by decide) (by decide) #[.int .i64 z.node, .int .i64 z.state, .int .i64 z.turn] rfl
  | k + 12, hk, _ => omega
 ·rintro ⟨tm, df⟩ w2 rho hdf hsz hF hR hX hV hD
  obtain rfl : df = [] := hdf
  obtain ⟨q, rfl⟩ := frame66 tm hsz
  have hD' := hD (fun i => decide (i < 12)) (fun i hi => decide_eq_true hi) (fun i hi => decide_eq_false (by omega))
  obtain ⟨g, e26, hg1, rg⟩ := hD'.x rfl
  obtain ⟨a0, c0, e21, ow, hap⟩ := hD'.u rfl
  have k26 : q 26 = _ := (hV 11 (by decide)).trans e26
  have k21 : q 21 = _ := (hV 6 (by decide)).trans e21
  rw [k26, k21]
  clear k26 k21
  have kk := zbk hF [0, 1, 2, 3, 4, 5, 6, 7, 8, 9, 10, 11, 12, 13, 14, 27, 28, 29, 30, 31, 32, 33, 34, 35, 36, 37, 38, 39, 40, 41, 42, 43, 44, 45, 46, 47, 48, 49, 50, 51, 52, 53, 54, 55, 56, 57, 58, 59, 60, 61, 62, 63, 64, 65] (by kernel_rfl)
  simp only [Bk, Array.getD_eq_getD_getElem?, zqA, zqS, zqZ, Option.getD_some] at kk
  simp only [kk]
  clear kk
  clear hF hX hV hD hsz hD'
  change wpAny _ _ _ _ 2 _ _ _
  refine wpAny_ready (rs := [12]) (by kernel_rfl) (by simp) ?_
  refine AllReady.cons (i := 12) rfl (fun K hK => ?_) AllReady.nil
  refine step_appG rfl _ _ 52 TRq (.agg #[.int .i64 0, .int .i64 0, .int .i64 0]) 3 24 rfl Try.underlying52 infoRq rfl (by decide) w1.heap.size a0 (n1 + n2) c0 (qcells stem ++ qcells loop) rfl ow (some ⟨g, 0, none⟩) 1 1 [.int .i64 z.node, .int .i64 z.state, .int .i64 z.turn] rfl rfl (SrcAt.row rg) (by intro u hu; simp at hu; rcases hu with rfl | rfl | rfl <;> rfl) (by have := hb12.out; unfold maxLen; omega) (by have := hb12.out; omega) hR.size ?_
  intro a3 c3 w3 ho hg _
  have hb3 : Below w1.heap.size w1 w3 := bgrown hR hg (fun j hj => (OwnR.lt ow hj).1)
  have P3 : PpsAt w3 a3 (stem ++ loop ++ [z]) := by
   refine PpsAt.of_own (base := w1.heap.size) (e := TRq) (cap := c3) ?_
   unfold OwnQ
   have e1 : (stem ++ loop ++ [z]).length = n1 + n2 + 1 := by rw [List.length_append, List.length_append, hn1.out, hn2.out]; rfl
   have e2 : qcells (stem ++ loop ++ [z]) = qcells stem ++ qcells loop ++ [.int .i64 z.node, .int .i64 z.state, .int .i64 z.turn] := by simp [qcells]
   rw [e1, e2]
   exact ho
  refine hK _ _ ?_
  clear hK K ho hg ow hap rg hg1 hR
  refine wpAny_ready (rs := [13]) (by kernel_rfl) (by simp) ?_
  refine AllReady.cons (i := 13) rfl (fun K hK => ?_) AllReady.nil
  go_simp
  refine hK _ _ ?_
  clear hK K
  refine ⟨by kernel_rfl, ?_⟩
  obtain ⟨m, hm⟩ : ∃ m, n1 + n2 = m := ⟨_, rfl⟩
  have hmb : Hid (m ≤ 2000000) := by have := hb12.out; show _ ≤ _; omega
  have hmI : (m : Int) ≤ 2000000 := by have := hmb.out; omega
  rw [hm]
  obtain ⟨L', hL'⟩ : ∃ L' : List PP, L' = stem ++ loop ++ [z] := ⟨_, rfl⟩
  have hlen : L'.length = m + 1 := by rw [hL', List.length_append, List.length_append, hn1.out, hn2.out, hm]; rfl
  rw [← hL'] at P3
  rw [← hL'] at hres
  obtain ⟨b3, o3, rfl, _, _⟩ := P3.at 0 (by omega)
  have PA := Lib.hid P3
  have hbw3 := Lib.hid hb3
  have rp3 := Lib.hid (rp1.out.below hb3)
  have hnm : Hid (n1 ≤ m) := by show _ ≤ _; omega
  replace hlen := Lib.hid hlen
  replace hm := Lib.hid hm
  replace hL' := Lib.hid hL'
  clear P3 hb3 ps1 pl1 z0 z1 z2 rp1
  go_wp2
  go_loopw [4, 5, 7, 8] (fun v4 v5 s kv wr => ∃ (k : Nat) (a : Option Addr) (c : Nat) (xs : List Int), v4 = .slice none 0 0 ∧ v5 = .slice none 0 0 ∧ k ≤ m ∧ kv = .int .i64 (k : Int) ∧ s = .slice a k c ∧ Hid (chain (ndAct G sets A) (L'.take (k + 1)) = some xs) ∧ Hid (OwnN .i64 wr w3.heap.size 3 a k c xs) ∧ Hid (Below w3.heap.size w3 wr)) (fun _ _ _ kv _ => m - (intOf kv).toNat)
  case atStart => exact ⟨0, none, 0, [], rfl, rfl, Nat.zero_le _, rfl, rfl, chain_one hlen.out, OwnN.nil _ _ _ _, Below.refl _ _⟩
  case round =>
   obtain ⟨k, a, c, xs, rfl, rfl, hk, rfl, rfl, hch, ow, lo'⟩ := hrel
   have lo := Lib.hid (btrans hbw3.out lo'.out)
   by_cases hkm : k < m
   ·have hkI : (k : Int) + 1 < (m : Int) + 1 := by omega
    have hkl : k + 1 < L'.length := by have := hlen.out; omega
    obtain ⟨_, _, e9, _, i0, i1, i2⟩ := (PA.out.below lo'.out).at k (by omega)
    cases e9
    obtain ⟨_, _, e9, _, j0, j1, j2⟩ := (PA.out.below lo'.out).at (k + 1) hkl
    cases e9
    have hch2 := chain_step (E := ndAct G sets A) hkl hch.out
    have rp4 := Lib.hid (rp3.out.below lo'.out)
    have RP4 := RP1.out.below lo.out
    obtain ⟨eu, ev, hed, hev⟩ := edge_cells (edgeP G sets A L'[k] L'[k + 1])
    obtain ⟨eb, heb⟩ : ∃ eb, eb = (edgeP G sets A L'[k] L'[k + 1]).isSome := ⟨_, rfl⟩
    have ED : Hid (∀ v, Below wr.heap.size wr v → Calls Try.prog 47 #[.agg #[.slice ai G.init.length ci, .slice ae G.edges.length ce, .slice al G.labels.length cl, .slice as_ sets.length cs, .int .i64 A.sets, .slice bi A.init.length di, .slice bn A.nodes.length dn], .agg #[.int .i64 L'[k].node, .int .i64 L'[k].state, .int .i64 L'[k].turn], .agg #[.int .i64 L'[k + 1].node, .int .i64 L'[k + 1].state, .int .i64 L'[k + 1].turn]] v fun e w' => e = .returned (.tuple #[.agg #[.int .i64 eu, .int .i64 ev], .bool eb]) ∧ Below v.heap.size v w') := fun v hb => by
     have := redge_any v ⟨ai, ae, al, as_, bi, bn, ci, ce, cl, cs, di, dn⟩ G sets A (RP4.below hb) L'[k] L'[k + 1]
     rw [hed, ← heb] at this
     exact this
    have hE : Hid (eb = false → res = ([], [])) := fun h9 => by
     rw [hres.out]
     have : chain (ndAct G sets A) (L'.take (k + 2)) = none := by
      rw [hch2]
      have : ndAct G sets A L'[k] L'[k + 1] = none := by
       unfold ndAct
       rw [h9] at heb
       cases h8 : edgeP G sets A L'[k] L'[k + 1] with
       | none => rfl
       | some _ => rw [h8] at heb; cases heb
      rw [this]
     have h7 := chain_none _ _ (L'.drop (k + 2)) this
     rw [List.take_append_drop] at h7
     rw [h7]
    have hS : Hid (eb = true → chain (ndAct G sets A) (L'.take (k + 1 + 1)) = some (xs ++ [ev])) := fun h9 => by
     rw [hch2]
     cases h8 : edgeP G sets A L'[k] L'[k + 1] with
     | none => rw [h8, h9] at heb; cases heb
     | some e =>
      have h6 : ndAct G sets A L'[k] L'[k + 1] = some e.2 := by unfold ndAct; rw [h8]; rfl
      rw [h6]
      have := hev e.2 (by rw [h8]; rfl)
      rw [this]
    clear hch2 hev hed heb RP4 hch
    generalize L'[k] = p at i0 i1 i2 ED
    generalize L'[k + 1] = s at j0 j1 j2 ED
    have lo3 := Lib.hid lo'.out
    clear lo'
    go_upto_region 8 with (fail)
    refine wp_region_dyn (by kernel_rfl) 17 (fun w' => Below wr.heap.size wr w') (fun i => ([some (.agg #[.slice ai G.init.length ci, .slice ae G.edges.length ce, .slice al G.labels.length cl, .slice as_ sets.length cs, .int .i64 A.sets, .slice bi A.init.length di, .slice bn A.nodes.length dn]), some (.slice (some ⟨b3, o3, none⟩) (m + 1) c3), some (.int .i64 (k : Int)), some (.pointer (some ⟨b3, o3 + k * 3, none⟩)), some (.agg #[.int .i64 p.node, .int .i64 p.state, .int .i64 p.turn]), some (.slice (some ⟨b3, o3, none⟩) (m + 1) c3), some (.int .i64 (k : Int)), some (.int .i64 ((k : Int) + 1)), some (.pointer (some ⟨b3, o3 + (k + 1) * 3, none⟩)), some (.agg #[.int .i64 s.node, .int .i64 s.state, .int .i64 s.turn]), some (.tuple #[.agg #[.int .i64 eu, .int .i64 ev], .bool eb]), some (.tuple #[.agg #[.int .i64 eu, .int .i64 ev], .bool eb]), some (.agg #[.int .i64 eu, .int .i64 ev]), some (.bool eb), none, some (undef), some (.bool eb)] : List (Option Value)).getD i none) (fun i => ([false, false, false, false, false, false, false, false, false, false, true, false, false, false, true, true, false] : List Bool).getD i false) (BoxD wr.heap.size TE [.int .i64 0, .int .i64 0] [.int .i64 eu, .int .i64 ev] 14 15) (by kernel_rfl) (by kernel_rfl) (by kernel_rfl) (Below.refl _ _).drew (fun rho => BoxD.start rho _) ?_ ?_ ?_
    ·intro i hi hdy
     match i, hi, hdy with
     | 0, _, _ =>
      refine ⟨_, rfl, fun L rho w h => h.pass (by decide) (by decide) (Below.refl _ _), ?_⟩
      intro o ho ac w' hR hF hX
      simp only [zqA, zqZ, zqI] at ho
      subst ho
      refine ⟨fun h => (by cases h), fun K hK => ?_⟩
      have e2 : ac.tmps.getD 2 undef = .pointer (some ⟨pb, 0, none⟩) := hF 2 (znd (by kernel_rfl))
      have d2 := zgD e2
      have q0 : w'.cell? ⟨pb, 0, none⟩ = some (.slice ai G.init.length ci) := (rp4.out.below hR).cell 0
      have q1 : w'.cell? ⟨pb, 1, none⟩ = some (.slice ae G.edges.length ce) := (rp4.out.below hR).cell 1
      have q2 : w'.cell? ⟨pb, 2, none⟩ = some (.slice al G.labels.length cl) := (rp4.out.below hR).cell 2
      have q3 : w'.cell? ⟨pb, 3, none⟩ = some (.slice as_ sets.length cs) := (rp4.out.below hR).cell 3
      have q4 : w'.cell? ⟨pb, 4, none⟩ = some (.int .i64 A.sets) := (rp4.out.below hR).cell 4
      have q5 : w'.cell? ⟨pb, 5, none⟩ = some (.slice bi A.init.length di) := (rp4.out.below hR).cell 5
      have q6 : w'.cell? ⟨pb, 6, none⟩ = some (.slice bn A.nodes.length dn) := (rp4.out.below hR).cell 6
      clear hX hF
      go_simp
      exact hK
     | 1, _, _ =>
      refine ⟨_, rfl, fun L rho w h => h.pass (by decide) (by decide) (Below.refl _ _), ?_⟩
      intro o ho ac w' hR hF hX
      simp only [zqA, zqZ, zqS, zqI] at ho
      subst ho
      refine ⟨fun h => (by cases h), fun K hK => ?_⟩
      have e6 : ac.tmps.getD 6 undef = .slice (some ⟨b3, o3, none⟩) (m + 1) c3 := hF 6 (znd (by kernel_rfl))
      have d6 := zgD e6
      clear hX hF
      go_simp
      exact hK
     | 2, _, _ =>
      refine ⟨_, rfl, fun L rho w h => h.pass (by decide) (by decide) (Below.refl _ _), ?_⟩
      intro o ho ac w' hR hF hX
      simp only [zqA, zqZ, zqS, zqI] at ho
      subst ho
      refine ⟨fun h => (by cases h), fun K hK => ?_⟩
      have e8 : ac.tmps.getD 8 undef = .int .i64 (k : Int) := hF 8 (znd (by kernel_rfl))
      have d8 := zgD e8
      clear hX hF
      go_simp
      exact hK
     | 3, _, _ =>
      refine ⟨_, rfl, fun L rho w h => h.pass (by decide) (by decide) (Below.refl _ _), ?_⟩
      intro o ho ac w' hR hF hX
      simp only [zqA, zqZ, zqS, zqI] at ho
      subst ho
      refine ⟨fun h => (by cases h), fun K hK => ?_⟩
      have e37 : ac.tmps.getD 37 undef = .slice (some ⟨b3, o3, none⟩) (m + 1) c3 := hX 1 (zdp (by kernel_rfl)) _ rfl
      have d37 := zgD e37
      have e38 : ac.tmps.getD 38 undef = .int .i64 (k : Int) := hX 2 (zdp (by kernel_rfl)) _ rfl
      have d38 := zgD e38
      have hkI2 : (k : Int) < (m : Int) + 1 := by omega
      clear hX hF
      go_simp
      exact hK
     | 4, _, _ =>
      refine ⟨_, rfl, fun L rho w h => h.pass (by decide) (by decide) (Below.refl _ _), ?_⟩
      intro o ho ac w' hR hF hX
      simp only [zqA, zqZ, zqS, zqI] at ho
      subst ho
      refine ⟨fun h => (by cases h), fun K hK => ?_⟩
      have e39 : ac.tmps.getD 39 undef = .pointer (some ⟨b3, o3 + k * 3, none⟩) := hX 3 (zdp (by kernel_rfl)) _ rfl
      have d39 := zgD e39
      have q0 : w'.cell? ⟨b3, o3 + k * 3, none⟩ = some (.int .i64 p.node) := bcell hR i0
      have q1 : w'.cell? ⟨b3, o3 + k * 3 + 1, none⟩ = some (.int .i64 p.state) := bcell hR i1
      have q2 : w'.cell? ⟨b3, o3 + k * 3 + 2, none⟩ = some (.int .i64 p.turn) := bcell hR i2
      clear hX hF
      go_simp
      exact hK
     | 5, _, _ =>
      refine ⟨_, rfl, fun L rho w h => h.pass (by decide) (by decide) (Below.refl _ _), ?_⟩
      intro o ho ac w' hR hF hX
      simp only [zqA, zqZ, zqS, zqI] at ho
      subst ho
      refine ⟨fun h => (by cases h), fun K hK => ?_⟩
      have e6 : ac.tmps.getD 6 undef = .slice (some ⟨b3, o3, none⟩) (m + 1) c3 := hF 6 (znd (by kernel_rfl))
      have d6 := zgD e6
      clear hX hF
      go_simp
      exact hK
     | 6, _, _ =>
      refine ⟨_, rfl, fun L rho w h => h.pass (by decide) (by decide) (Below.refl _ _), ?_⟩
      intro o ho ac w' hR hF hX
      simp only [zqA, zqZ, zqS, zqI] at ho
      subst ho
      refine ⟨fun h => (by cases h), fun K hK => ?_⟩
      have e8 : ac.tmps.getD 8 undef = .int .i64 (k : Int) := hF 8 (znd (by kernel_rfl))
      have d8 := zgD e8
      clear hX hF
      go_simp
      exact hK
     | 7, _, _ =>
      refine ⟨_, rfl, fun L rho w h => h.pass (by decide) (by decide) (Below.refl _ _), ?_⟩
      intro o ho ac w' hR hF hX
      simp only [zqA, zqZ, zqS, zqI] at ho
      subst ho
      refine ⟨fun h => (by cases h), fun K hK => ?_⟩
      have e42 : ac.tmps.getD 42 undef = .int .i64 (k : Int) := hX 6 (zdp (by kernel_rfl)) _ rfl
      have d42 := zgD e42
      have hw1 : IntKind.i64.wrap ((k : Int) + 1) = (k : Int) + 1 := IntWalk.i64_in _ (by have := hmb.out; omega)
      clear hX hF
      go_simp
      exact hK
     | 8, _, _ =>
      refine ⟨_, rfl, fun L rho w h => h.pass (by decide) (by decide) (Below.refl _ _), ?_⟩
      intro o ho ac w' hR hF hX
      simp only [zqA, zqZ, zqS, zqI] at ho
      subst ho
      refine ⟨fun h => (by cases h), fun K hK => ?_⟩
      have e41 : ac.tmps.getD 41 undef = .slice (some ⟨b3, o3, none⟩) (m + 1) c3 := hX 5 (zdp (by kernel_rfl)) _ rfl
      have d41 := zgD e41
      have e43 : ac.tmps.getD 43 undef = .int .i64 ((k : Int) + 1) := hX 7 (zdp (by kernel_rfl)) _ rfl
      have d43 := zgD e43
      have hw2 : ((k : Int) + 1).toNat = k + 1 := by omega
      have hkI3 : (k : Int) + 1 < (m : Int) + 1 := by omega
      clear hX hF
      go_simp
      exact hK
     | 9, _, _ =>
      refine ⟨_, rfl, fun L rho w h => h.pass (by decide) (by decide) (Below.refl _ _), ?_⟩
      intro o ho ac w' hR hF hX
      simp only [zqA, zqZ, zqS, zqI] at ho
      subst ho
      refine ⟨fun h => (by cases h), fun K hK => ?_⟩
      have e44 : ac.tmps.getD 44 undef = .pointer (some ⟨b3, o3 + (k + 1) * 3, none⟩) := hX 8 (zdp (by kernel_rfl)) _ rfl
      have d44 := zgD e44
      have q0 : w'.cell? ⟨b3, o3 + (k + 1) * 3, none⟩ = some (.int .i64 s.node) := bcell hR j0
      have q1 : w'.cell? ⟨b3, o3 + (k + 1) * 3 + 1, none⟩ = some (.int .i64 s.state) := bcell hR j1
      have q2 : w'.cell? ⟨b3, o3 + (k + 1) * 3 + 2, none⟩ = some (.int .i64 s.turn) := bcell hR j2
      clear hX hF
      go_simp
      exact hK
     | 10, _, hdy => exact znF hdy
     | 11, _, _ =>
      refine ⟨_, rfl, fun L rho w h => h.pass (by decide) (by decide) (Below.refl _ _), ?_⟩
      intro o ho ac w' hR hF hX
      simp only [zqA, zqZ, zqS, zqI] at ho
      subst ho
      refine ⟨fun h => (by cases h), fun K hK => ?_⟩
      have e46 : ac.tmps.getD 46 undef = .tuple #[.agg #[.int .i64 eu, .int .i64 ev], .bool eb] := hX 10 (zdp (by kernel_rfl)) _ rfl
      have d46 := zgD e46
      clear hX hF
      go_simp
      exact hK
     | 12, _, _ =>
      refine ⟨_, rfl, fun L rho w h => h.pass (by decide) (by decide) (Below.refl _ _), ?_⟩
      intro o ho ac w' hR hF hX
      simp only [zqA, zqZ, zqS, zqI] at ho
      subst ho
      refine ⟨fun h => (by cases h), fun K hK => ?_⟩
      have e35 : ac.tmps.getD 35 undef = .tuple #[.agg #[.int .i64 eu, .int .i64 ev], .bool eb] := hX 11 (zdp (by kernel_rfl)) _ rfl
      have d35 := zgD e35
      clear hX hF
      go_simp
      exact hK
     | 13, _, _ =>
      refine ⟨_, rfl, fun L rho w h => h.pass (by decide) (by decide) (Below.refl _ _), ?_⟩
      intro o ho ac w' hR hF hX
      simp only [zqA, zqZ, zqS, zqI] at ho
      subst ho
      refine ⟨fun h => (by cases h), fun K hK => ?_⟩
      have e35 : ac.tmps.getD 35 undef = .tuple #[.agg #[.int .i64 eu, .int .i64 ev], .bool eb] := hX 11 (zdp (by kernel_rfl)) _ rfl
      have d35 := zgD e35
      clear hX hF
      go_simp
      exact hK
     | 14, _, hdy => exact znF hdy
     | 15, _, hdy => exact znF hdy
     | 16, _, _ =>
      refine ⟨_, rfl, fun L rho w h => h.pass (by decide) (by decide) (Below.refl _ _), ?_⟩
      intro o ho ac w' hR hF hX
      simp only [zqA, zqZ, zqS, zqI] at ho
      subst ho
      refine ⟨fun h => (by cases h), fun K hK => ?_⟩
      have e35 : ac.tmps.getD 35 undef = .tuple #[.agg #[.int .i64 eu, .int .i64 ev], .bool eb] := hX 11 (zdp (by kernel_rfl)) _ rfl
      have d35 := zgD e35
      have e36 : ac.tmps.getD 36 undef = .agg #[.slice ai G.init.length ci, .slice ae G.edges.length ce, .slice al G.labels.length cl, .slice as_ sets.length cs, .int .i64 A.sets, .slice bi A.init.length di, .slice bn A.nodes.length dn] := hX 0 (zdp (by kernel_rfl)) _ rfl
      have d36 := zgD e36
      have e37 : ac.tmps.getD 37 undef = .slice (some ⟨b3, o3, none⟩) (m + 1) c3 := hX 1 (zdp (by kernel_rfl)) _ rfl
      have d37 := zgD e37
      have e38 : ac.tmps.getD 38 undef = .int .i64 (k : Int) := hX 2 (zdp (by kernel_rfl)) _ rfl
      have d38 := zgD e38
      have e39 : ac.tmps.getD 39 undef = .pointer (some ⟨b3, o3 + k * 3, none⟩) := hX 3 (zdp (by kernel_rfl)) _ rfl
      have d39 := zgD e39
      have e40 : ac.tmps.getD 40 undef = .agg #[.int .i64 p.node, .int .i64 p.state, .int .i64 p.turn] := hX 4 (zdp (by kernel_rfl)) _ rfl
      have d40 := zgD e40
      have e41 : ac.tmps.getD 41 undef = .slice (some ⟨b3, o3, none⟩) (m + 1) c3 := hX 5 (zdp (by kernel_rfl)) _ rfl
      have d41 := zgD e41
      have e42 : ac.tmps.getD 42 undef = .int .i64 (k : Int) := hX 6 (zdp (by kernel_rfl)) _ rfl
      have d42 := zgD e42
      have e43 : ac.tmps.getD 43 undef = .int .i64 ((k : Int) + 1) := hX 7 (zdp (by kernel_rfl)) _ rfl
      have d43 := zgD e43
      have e44 : ac.tmps.getD 44 undef = .pointer (some ⟨b3, o3 + (k + 1) * 3, none⟩) := hX 8 (zdp (by kernel_rfl)) _ rfl
      have d44 := zgD e44
      have e45 : ac.tmps.getD 45 undef = .agg #[.int .i64 s.node, .int .i64 s.state, .int .i64 s.turn] := hX 9 (zdp (by kernel_rfl)) _ rfl
      have d45 := zgD e45
      have e46 : ac.tmps.getD 46 undef = .tuple #[.agg #[.int .i64 eu, .int .i64 ev], .bool eb] := hX 10 (zdp (by kernel_rfl)) _ rfl
      have d46 := zgD e46
      have e47 : ac.tmps.getD 47 undef = .agg #[.int .i64 eu, .int .i64 ev] := hX 12 (zdp (by kernel_rfl)) _ rfl
      have d47 := zgD e47
      have e48 : ac.tmps.getD 48 undef = .bool eb := hX 13 (zdp (by kernel_rfl)) _ rfl
      have g48 := getD_bool e48
      have d48 := zgD e48
      clear hX hF
      go_simp
      exact hK
     | k + 17, hk, _ => omega
    ·intro i hi hdy
     match i, hi, hdy with
     | 0, _, hdy => exact znT hdy
     | 1, _, hdy => exact znT hdy
     | 2, _, hdy => exact znT hdy
     | 3, _, hdy => exact znT hdy
     | 4, _, hdy => exact znT hdy
     | 5, _, hdy => exact znT hdy
     | 6, _, hdy => exact znT hdy
     | 7, _, hdy => exact znT hdy
     | 8, _, hdy => exact znT hdy
     | 9, _, hdy => exact znT hdy
     | 10, _, _ =>
      intro o ho ac w' L rho hR hD hl hc hdep hX hF K hK
      simp only [zqA, zqZ, zqS, zqI] at ho
      subst ho
      have e36 : ac.tmps.getD 36 undef = .agg #[.slice ai G.init.length ci, .slice ae G.edges.length ce, .slice al G.labels.length cl, .slice as_ sets.length cs, .int .i64 A.sets, .slice bi A.init.length di, .slice bn A.nodes.length dn] := hX 0 (zdp (by kernel_rfl)) _ rfl
      have d36 := zgD e36
      have e40 : ac.tmps.getD 40 undef = .agg #[.int .i64 p.node, .int .i64 p.state, .int .i64 p.turn] := hX 4 (zdp (by kernel_rfl)) _ rfl
      have d40 := zgD e40
      have e45 : ac.tmps.getD 45 undef = .agg #[.int .i64 s.node, .int .i64 s.state, .int .i64 s.turn] := hX 9 (zdp (by kernel_rfl)) _ rfl
      have d45 := zgD e45
      go_simp
      refine (ED.out w' hR).mono ?_
      rintro e w6 ⟨rfl, hb6⟩
      exact hK _ _ (btrans hR hb6) (fun h => by cases h) (fun u h => by cases h; rfl) (hD.pass (by decide) (by decide) hb6)
     | 11, _, hdy => exact znT hdy
     | 12, _, hdy => exact znT hdy
     | 13, _, hdy => exact znT hdy
     | 14, _, _ =>
      intro o ho ac w' L rho hR hD hl hc hdep hX hF K hK
      simp only [zqA, zqZ, zqS, zqI] at ho
      subst ho
      go_simp
      exact hK _ _ (balloc hR _) (fun h => by cases h) (fun u h => by cases h) (BoxD.made hR.size (by decide) hl (fun h => hc 15 h 14 (zdp (by kernel_rfl))) #[.int .i64 0, .int .i64 0] rfl)
     | 15, _, _ =>
      intro o ho ac w' L rho hR hD hl hc hdep hX hF K hK
      simp only [zqA, zqZ, zqS, zqI] at ho
      subst ho
      have r9 : ac.tmps.getD 9 undef = rho 14 := (hdep 14 (zdp (by kernel_rfl))).2
      have e35 : ac.tmps.getD 35 undef = .tuple #[.agg #[.int .i64 eu, .int .i64 ev], .bool eb] := hX 11 (zdp (by kernel_rfl)) _ rfl
      have d35 := zgD e35
      have e36 : ac.tmps.getD 36 undef = .agg #[.slice ai G.init.length ci, .slice ae G.edges.length ce, .slice al G.labels.length cl, .slice as_ sets.length cs, .int .i64 A.sets, .slice bi A.init.length di, .slice bn A.nodes.length dn] := hX 0 (zdp (by kernel_rfl)) _ rfl
      have d36 := zgD e36
      have e37 : ac.tmps.getD 37 undef = .slice (some ⟨b3, o3, none⟩) (m + 1) c3 := hX 1 (zdp (by kernel_rfl)) _ rfl
      have d37 := zgD e37
      have e38 : ac.tmps.getD 38 undef = .int .i64 (k : Int) := hX 2 (zdp (by kernel_rfl)) _ rfl
      have d38 := zgD e38
      have e39 : ac.tmps.getD 39 undef = .pointer (some ⟨b3, o3 + k * 3, none⟩) := hX 3 (zdp (by kernel_rfl)) _ rfl
      have d39 := zgD e39
      have e40 : ac.tmps.getD 40 undef = .agg #[.int .i64 p.node, .int .i64 p.state, .int .i64 p.turn] := hX 4 (zdp (by kernel_rfl)) _ rfl
      have d40 := zgD e40
      have e41 : ac.tmps.getD 41 undef = .slice (some ⟨b3, o3, none⟩) (m + 1) c3 := hX 5 (zdp (by kernel_rfl)) _ rfl
      have d41 := zgD e41
      have e42 : ac.tmps.getD 42 undef = .int .i64 (k : Int) := hX 6 (zdp (by kernel_rfl)) _ rfl
      have d42 := zgD e42
      have e43 : ac.tmps.getD 43 undef = .int .i64 ((k : Int) + 1) := hX 7 (zdp (by kernel_rfl)) _ rfl
      have d43 := zgD e43
      have e44 : ac.tmps.getD 44 undef = .pointer (some ⟨b3, o3 + (k + 1) * 3, none⟩) := hX 8 (zdp (by kernel_rfl)) _ rfl
      have d44 := zgD e44
      have e45 : ac.tmps.getD 45 undef = .agg #[.int .i64 s.node, .int .i64 s.state, .int .i64 s.turn] := hX 9 (zdp (by kernel_rfl)) _ rfl
      have d45 := zgD e45
      have e46 : ac.tmps.getD 46 undef = .tuple #[.agg #[.int .i64 eu, .int .i64 ev], .bool eb] := hX 10 (zdp (by kernel_rfl)) _ rfl
      have d46 := zgD e46
      have e47 : ac.tmps.getD 47 undef = .agg #[.int .i64 eu, .int .i64 ev] := hX 12 (zdp (by kernel_rfl)) _ rfl
      have d47 := zgD e47
      obtain ⟨g, e1, hg, rg⟩ := hD.b (hdep 14 (zdp (by kernel_rfl))).1
      rw [e1] at r9
      rw [hl] at rg
      have t0 := rg.cell 0
      have t1 := rg.cell 1
      have u0 := rg.free 0
      have u1 := rg.free 1
      simp only [Bool.false_eq_true, if_false, List.getElem?_cons_zero, List.getElem?_cons_succ] at t0 t1
      have b9 := zgD r9
      have rg2 := (rg.set 0 (.int .i64 eu)).set 1 (.int .i64 ev)
      have hg9 := hg
      have hR9 := Lib.hid hR
      have hl9 := Lib.hid hl
      have e19 := Lib.hid e1
      have rg9 := Lib.hid rg2
      clear hD hX hF hc hdep rg rg2 hR hl e1
      go_simp
      refine hK _ _ (bsetN (bsetN hR9.out hg9) hg9) (fun _ => rfl) (fun u h => by cases h; rfl) ⟨fun _ => ⟨g, ?_, hg9, ?_⟩⟩
      ·rw [updV_ne (by decide)]; exact e19.out
      ·rw [updB_eq]; simpa using rg9.out
     | 16, _, hdy => exact znT hdy
     | k + 17, hk, _ => omega
    ·rintro ⟨tm, df⟩ w4' rho hdf hsz hF hR hX hV hD
     obtain rfl : df = [] := hdf
     obtain ⟨q, rfl⟩ := frame66 tm hsz
     have hD' := hD (fun i => decide (i < 17)) (fun i hi => decide_eq_true hi) (fun i hi => decide_eq_false (by omega))
     obtain ⟨g, e9', hg1, rg⟩ := hD'.b rfl
     have k9 : q 9 = _ := (hV 14 (by decide)).trans e9'
     have k10 : q 10 = .bool eb := hX 16 _ (by decide) rfl
     rw [k9, k10]
     clear k9 k10
     have kk := zbk hF [0, 1, 2, 3, 4, 5, 6, 7, 8, 11, 12, 13, 14, 15, 16, 17, 18, 19, 20, 21, 22, 23, 24, 25, 26, 27, 28, 29, 30, 31, 32, 33, 34, 49, 50, 51, 52, 53, 54, 55, 56, 57, 58, 59, 60, 61, 62, 63, 64, 65] (by kernel_rfl)
     simp only [Bk, Array.getD_eq_getD_getElem?, zqA, zqS, zqZ, Option.getD_some] at kk
     simp only [kk]
     clear kk
     clear hF hX hV hD hsz hD' i0 i1 i2 j0 j1 j2
     have x1 : w4'.cell? ⟨g, 1, none⟩ = some (.int .i64 ev) := rg.cell 1
     have lo2 := Lib.hid (btrans lo3.out hR)
     have ow2 : Hid (OwnN .i64 w4' w3.heap.size 3 a k c xs) := ow.out.keeps (S := fun _ => False) (Keeps.of_below hR) (fun _ _ h => h)
     clear rg hg1 hR lo ow ED rp4
     change wpAny _ _ _ _ 0 _ _ _
     refine ⟨by kernel_rfl, ?_⟩
     cases eb with
     | false =>
      have hno := Lib.hid (hE.out rfl)
      clear hE
      go_wp2
      refine bodyPost_ret (v := .tuple #[.slice none 0 0, .slice none 0 0]) (by simp [results, Try.results19, go_sem]) rfl ?_
      rw [hno.out]
      exact ⟨btrans hbW.out (btrans hbw3.out lo2.out), TwoAt.nil _⟩
     | true =>
      have hst := Lib.hid (hS.out rfl)
      have OW : Hid (OwnN .i64 (w4'.alloc (.cells #[.int .i64 ev] 3)) w3.heap.size 3 a k c xs) := ow2.out.alloc _
      have NC : Hid ((w4'.alloc (.cells #[.int .i64 ev] 3)).cell? ⟨w4'.heap.size, 0, none⟩ = some (.int .i64 ev)) := World.cell?_alloc_at _ _ _ _ rfl
      have lo4 : Hid (Below w3.heap.size w3 (w4'.alloc (.cells #[.int .i64 ev] 3))) := balloc lo2.out _
      have y5 : Hid ((k + 1) * 8 ≤ 140737488355328) := by have := hmb.out; show _ ≤ _; omega
      have x5 : Hid (w3.heap.size ≤ (w4'.alloc (.cells #[.int .i64 ev] 3)).heap.size) := by show _ ≤ _; exact lo4.out.size
      clear hE hS
      go_wp2_with (at_builtin; refine wp_app1 rfl _ _ 22 3 .i64 8 rfl Try.underlying22 infoI w3.heap.size a k c _ rfl OW.out _ 1 ev rfl NC.out y5.out (by decide) x5.out ?_)
      intro a5 c5 w5 ho5 hg5
      have lo5 := Lib.hid (bgrown lo4.out hg5 (fun j hj => ow2.out.block j hj))
      have ow5 : Hid (OwnN .i64 w5 w3.heap.size 3 a5 (k + 1) c5 (xs ++ [ev])) := ho5
      clear OW NC y5 x5 ho5 hg5 ow2 lo2 lo4 x1
      go_wp2
      go_roundw
      case rel => exact ⟨k + 1, a5, c5, xs ++ [ev], rfl, rfl, by omega, by go_num, rfl, hst, ow5, lo5⟩
      case measure => simp [intOf]; omega
   ·obtain rfl : k = m := by omega
    rw [List.take_of_length_le (by rw [hlen.out]; exact Nat.le_refl _)] at hch
    have hfin : Hid (res = (xs.take n1, xs.drop n1)) := by show _ = _; rw [hres.out, hch.out, ← hn1.out]
    have hmc : Hid (k ≤ c) := ow.out.caps.1
    have hnn : ¬ (k : Int) + 1 < (k : Int) + 1 := by omega
    have hcutA := fun w => run_cut_h (P := Try.prog) Try.underlying22 (sz := 1) Try.sizeInt a k c n1 (kh := .i64) (H := (n1 : Int)) rfl (by have := hnm.out; have := hmc.out; omega) w
    have hcutB := fun w => run_cut_l (P := Try.prog) Try.underlying22 (sz := 1) Try.sizeInt a k c n1 (kl := .i64) (L := (n1 : Int)) rfl hnm.out w
    clear lo' hch hk
    go_upto_region 12 with (fail)
    refine wp_region_kp (by kernel_rfl) 12 [.fix (.slice a k c), .fix (.pointer (some ⟨fb, 5, none⟩)), .fix (.slice sa n1 sc), .fix (.int .i64 (n1 : Int)), .fix (.slice a n1 c), .fix (.slice a k c), .fix (.pointer (some ⟨fb, 5, none⟩)), .fix (.slice sa n1 sc), .fix (.int .i64 (n1 : Int)), .fix (.slice (cutA a c n1 1) (k - n1) (c - n1)), .fix (.slice a n1 c), .fix (.slice (cutA a c n1 1) (k - n1) (c - n1))] (by kernel_rfl) (by kernel_rfl) (by kernel_rfl) ?_ ?_
    ·intro i hi
     match i, hi with
     | 0, _ =>
      intro o ho ac w' hR hF hD K hK
      simp only [zqA, zqZ, zqI] at ho
      subst ho
      have e7 : ac.tmps.getD 7 undef = .slice a k c := hF 7 (znd (by kernel_rfl))
      have d7 := zgD e7
      clear hD hF
      go_simp
      exact hK _ _ (Below.refl _ _) rfl
     | 1, _ =>
      intro o ho ac w' hR hF hD K hK
      simp only [zqA, zqZ, zqS, zqI] at ho
      subst ho
      have e3 : ac.tmps.getD 3 undef = .pointer (some ⟨fb, 0, none⟩) := hF 3 (znd (by kernel_rfl))
      have d3 := zgD e3
      clear hD hF
      go_simp
      exact hK _ _ (Below.refl _ _) rfl
     | 2, _ =>
      intro o ho ac w' hR hF hD K hK
      simp only [zqA, zqZ, zqS, zqI] at ho
      subst ho
      have e57 : ac.tmps.getD 57 undef = .pointer (some ⟨fb, 5, none⟩) := hD 1 (zdp (by kernel_rfl)) 57 rfl
      have d57 := zgD e57
      clear hD hF
      have c0 : w'.cell? ⟨fb, 5, none⟩ = some (.slice sa n1 sc) := ((rf1.out.below lo.out).below hR).cell 5
      go_simp
      exact hK _ _ (Below.refl _ _) rfl
     | 3, _ =>
      intro o ho ac w' hR hF hD K hK
      simp only [zqA, zqZ, zqS, zqI] at ho
      subst ho
      have e58 : ac.tmps.getD 58 undef = .slice sa n1 sc := hD 2 (zdp (by kernel_rfl)) 58 rfl
      have d58 := zgD e58
      clear hD hF
      go_simp
      exact hK _ _ (Below.refl _ _) rfl
     | 4, _ =>
      intro o ho ac w' hR hF hD K hK
      simp only [zqA, zqZ, zqS, zqI] at ho
      subst ho
      have e56 : ac.tmps.getD 56 undef = .slice a k c := hD 0 (zdp (by kernel_rfl)) 56 rfl
      have d56 := zgD e56
      have e59 : ac.tmps.getD 59 undef = .int .i64 (n1 : Int) := hD 3 (zdp (by kernel_rfl)) 59 rfl
      have d59 := zgD e59
      clear hD hF
      go_simp
      exact hK _ _ (Below.refl _ _) rfl
     | 5, _ =>
      intro o ho ac w' hR hF hD K hK
      simp only [zqA, zqZ, zqS, zqI] at ho
      subst ho
      have e7 : ac.tmps.getD 7 undef = .slice a k c := hF 7 (znd (by kernel_rfl))
      have d7 := zgD e7
      clear hD hF
      go_simp
      exact hK _ _ (Below.refl _ _) rfl
     | 6, _ =>
      intro o ho ac w' hR hF hD K hK
      simp only [zqA, zqZ, zqS, zqI] at ho
      subst ho
      have e3 : ac.tmps.getD 3 undef = .pointer (some ⟨fb, 0, none⟩) := hF 3 (znd (by kernel_rfl))
      have d3 := zgD e3
      clear hD hF
      go_simp
      exact hK _ _ (Below.refl _ _) rfl
     | 7, _ =>
      intro o ho ac w' hR hF hD K hK
      simp only [zqA, zqZ, zqS, zqI] at ho
      subst ho
      have e62 : ac.tmps.getD 62 undef = .pointer (some ⟨fb, 5, none⟩) := hD 6 (zdp (by kernel_rfl)) 62 rfl
      have d62 := zgD e62
      clear hD hF
      have c0 : w'.cell? ⟨fb, 5, none⟩ = some (.slice sa n1 sc) := ((rf1.out.below lo.out).below hR).cell 5
      go_simp
      exact hK _ _ (Below.refl _ _) rfl
     | 8, _ =>
      intro o ho ac w' hR hF hD K hK
      simp only [zqA, zqZ, zqS, zqI] at ho
      subst ho
      have e63 : ac.tmps.getD 63 undef = .slice sa n1 sc := hD 7 (zdp (by kernel_rfl)) 63 rfl
      have d63 := zgD e63
      clear hD hF
      go_simp
      exact hK _ _ (Below.refl _ _) rfl
     | 9, _ =>
      intro o ho ac w' hR hF hD K hK
      simp only [zqA, zqZ, zqS, zqI] at ho
      subst ho
      have e61 : ac.tmps.getD 61 undef = .slice a k c := hD 5 (zdp (by kernel_rfl)) 61 rfl
      have d61 := zgD e61
      have e64 : ac.tmps.getD 64 undef = .int .i64 (n1 : Int) := hD 8 (zdp (by kernel_rfl)) 64 rfl
      have d64 := zgD e64
      clear hD hF
      go_simp
      exact hK _ _ (Below.refl _ _) rfl
     | 10, _ =>
      intro o ho ac w' hR hF hD K hK
      simp only [zqA, zqZ, zqS, zqI] at ho
      subst ho
      have e56 : ac.tmps.getD 56 undef = .slice a k c := hD 0 (zdp (by kernel_rfl)) 56 rfl
      have d56 := zgD e56
      have e57 : ac.tmps.getD 57 undef = .pointer (some ⟨fb, 5, none⟩) := hD 1 (zdp (by kernel_rfl)) 57 rfl
      have d57 := zgD e57
      have e58 : ac.tmps.getD 58 undef = .slice sa n1 sc := hD 2 (zdp (by kernel_rfl)) 58 rfl
      have d58 := zgD e58
      have e59 : ac.tmps.getD 59 undef = .int .i64 (n1 : Int) := hD 3 (zdp (by kernel_rfl)) 59 rfl
      have d59 := zgD e59
      have e60 : ac.tmps.getD 60 undef = .slice a n1 c := hD 4 (zdp (by kernel_rfl)) 60 rfl
      have d60 := zgD e60
      clear hD hF
      go_simp
      exact hK _ _ (Below.refl _ _) rfl
     | 11, _ =>
      intro o ho ac w' hR hF hD K hK
      simp only [zqA, zqZ, zqS, zqI] at ho
      subst ho
      have e4 : ac.tmps.getD 4 undef = .slice a n1 c := hD 10 (zdp (by kernel_rfl)) 4 rfl
      have d4 := zgD e4
      have e56 : ac.tmps.getD 56 undef = .slice a k c := hD 0 (zdp (by kernel_rfl)) 56 rfl
      have d56 := zgD e56
      have e57 : ac.tmps.getD 57 undef = .pointer (some ⟨fb, 5, none⟩) := hD 1 (zdp (by kernel_rfl)) 57 rfl
      have d57 := zgD e57
      have e58 : ac.tmps.getD 58 undef = .slice sa n1 sc := hD 2 (zdp (by kernel_rfl)) 58 rfl
      have d58 := zgD e58
      have e59 : ac.tmps.getD 59 undef = .int .i64 (n1 : Int) := hD 3 (zdp (by kernel_rfl)) 59 rfl
      have d59 := zgD e59
      have e60 : ac.tmps.getD 60 undef = .slice a n1 c := hD 4 (zdp (by kernel_rfl)) 60 rfl
      have d60 := zgD e60
      have e61 : ac.tmps.getD 61 undef = .slice a k c := hD 5 (zdp (by kernel_rfl)) 61 rfl
      have d61 := zgD e61
      have e62 : ac.tmps.getD 62 undef = .pointer (some ⟨fb, 5, none⟩) := hD 6 (zdp (by kernel_rfl)) 62 rfl
      have d62 := zgD e62
      have e63 : ac.tmps.getD 63 undef = .slice sa n1 sc := hD 7 (zdp (by kernel_rfl)) 63 rfl
      have d63 := zgD e63
      have e64 : ac.tmps.getD 64 undef = .int .i64 (n1 : Int) := hD 8 (zdp (by kernel_rfl)) 64 rfl
      have d64 := zgD e64
      have e65 : ac.tmps.getD 65 undef = .slice (cutA a c n1 1) (k - n1) (c - n1) := hD 9 (zdp (by kernel_rfl)) 65 rfl
      have d65 := zgD e65
      clear hD hF
      go_simp
      exact hK _ _ (Below.refl _ _) rfl
     | k + 12, hk => omega
    ·rintro ⟨tm, df⟩ w6' hdf hsz hF hR hV
     obtain rfl : df = [] := hdf
     obtain ⟨q, rfl⟩ := frame66 tm hsz
     have k4 : q 4 = .slice a n1 c := hV 10 4 (by decide) rfl
     have k5 : q 5 = .slice (cutA a c n1 1) (k - n1) (c - n1) := hV 11 5 (by decide) rfl
     rw [k4, k5]
     clear k4 k5 hF hV hsz
     have NA := (NumsAt.of_owns ow.out).below hR
     have hxl : xs.length = k := by have := ow.out.1; simpa using this
     have hb9 := Lib.hid (btrans hbW.out (btrans lo.out hR))
     change wpAny _ _ _ _ 0 _ _ _
     refine ⟨by kernel_rfl, ?_⟩
     clear hcutA hcutB
     go_wp2
     refine bodyPost_ret (v := .tuple #[.slice a n1 c, .slice (cutA a c n1 1) (k - n1) (c - n1)]) (by simp [results, Try.results19, go_sem]) rfl ?_
     rw [hfin.out]
     refine ⟨hb9.out, a, c, cutA a c n1 1, c - n1, ?_, NumsAt.upto NA n1, NumsAt.cut NA (by rw [hxl]; exact hmc.out)⟩
     rw [List.length_take, List.length_drop, hxl, Nat.min_eq_left hnm.out]
theorem racts_any (W : World) (X : RX) (G : GR) (sets : List (List Bool)) (A : AU) (h : RpA W X G sets A) (k9 y9 n9 e9 d9 : Int) (sa la : Option Addr) (sc lc : Nat) (stem loop : List PP) (ps : PpsAt W sa stem) (pl : PpsAt W la loop) (hs : stem.length ≤ 1000000) (hl : loop.length ≤ 1000000) :
  Calls Try.prog 19 #[rpv X G sets A, .agg #[.int .i64 k9, .int .i64 y9, .int .i64 n9, .int .i64 e9, .int .i64 d9, .slice sa stem.length sc, .slice la loop.length lc]] W fun e w' => Below W.heap.size W w' ∧ TwoAt w' e (lassoActs (ndAct G sets A) stem loop) := by
 obtain ⟨ai, ae, al, as_, bi, bn, ci, ce, cl, cs, di, dn⟩ := X
 cases loop with
 | nil => exact (racts_none W ai ae al as_ bi bn ci ce cl cs di dn G sets A k9 y9 n9 e9 d9 sa la sc lc stem).mono fun e w' ⟨h1, h2⟩ => ⟨h2, by rw [h1]; exact TwoAt.nil _⟩
 | cons z r => exact racts_some W ai ae al as_ bi bn ci ce cl cs di dn G sets A h k9 y9 n9 e9 d9 sa la sc lc stem (z :: r) z r rfl ps pl hs hl
end Go.Proofs.Ytfcpfcgcfaacnaa
