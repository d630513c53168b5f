/- The acts of what was found. Conditions: the product in memory, small; the pairs few. -/
import Derived.Test.YtfcpfcgcfaacnaaSNdActs
namespace Go.Proofs.Ytfcpfcgcfaacnaa
open Go.RowKit
def bothO : Option (List Int) → Option (List Int) → List Int × List Int
 | some a, some b => (a, b)
 | _, _ => ([], [])
def lassoActs (E : PP → PP → Option Int) (stem loop : List PP) : List Int × List Int :=
 match loop with
 | [] => ([], [])
 | z :: _ => bothO (chain E (stem ++ [z])) (chain E (loop ++ [z]))
def TwoAt (w : World) (e : Ending) (x : List Int × List Int) : Prop := ∃ a c a2 c2, e = .returned (.tuple #[.slice a x.1.length c, .slice a2 x.2.length c2]) ∧ NumsAt .i64 w a x.1 ∧ NumsAt .i64 w a2 x.2
theorem TwoAt.nil (w : World) : TwoAt w (.returned (.tuple #[.slice none 0 0, .slice none 0 0])) ([], []) := ⟨none, 0, none, 0, rfl, NumsAt.of_owns (OwnN.nil .i64 w 0 3), NumsAt.of_owns (OwnN.nil .i64 w 0 3)⟩
theorem ActsR.parts {w w' : World} {n : Nat} {e : Ending} {o : Option (List Int)} (h : ActsR w w' n e o) : ∃ (a : Option Addr) (m c : Nat) (xs : List Int), e = .returned (.tuple #[.slice a m c, .bool o.isSome]) ∧ xs.length = m ∧ NumsAt .i64 w' a xs ∧ (o.isSome = true → o = some xs) := by
 match o, h with
 | none, h => exact ⟨none, 0, 0, [], h, rfl, NumsAt.of_owns (OwnN.nil .i64 w' 0 3), fun h => by cases h⟩
 | some xs, h =>
  obtain ⟨a, c, rfl, h2, h3⟩ := h
  exact ⟨a, n, c, xs, rfl, h2, NumsAt.of_owns h3, fun _ => rfl⟩
set_option maxHeartbeats 4000000 in
theorem acts_v (w : World) (pv : Value) (EP : PP → PP → Option PR) (EG : ∀ v, Below w.heap.size w v → ∀ x y : PP, Calls Try.prog 74 #[pv, .agg #[.int .i64 x.node, .int .i64 x.state, .int .i64 x.turn], .agg #[.int .i64 y.node, .int .i64 y.state, .int .i64 y.turn]] v fun e w' => e = .returned (.tuple #[edv (EP x y), .bool (EP x y).isSome]) ∧ Below v.heap.size v w') (kind why nodes edges depth : Int) (sa la : Option Addr) (sc lc : Nat) (stem loop : List PP) (hps : PpsAt w sa stem) (hpl : PpsAt w la loop) (hs : stem.length ≤ 1000000) (hl : loop.length ≤ 1000000) :
  Calls Try.prog 18 #[pv, .agg #[.int .i64 kind, .int .i64 why, .int .i64 nodes, .int .i64 edges, .int .i64 depth, .slice sa stem.length sc, .slice la loop.length lc]] w fun e w' => Below w.heap.size w w' ∧ TwoAt w' e (lassoActs (actE EP) stem loop) := by
 obtain ⟨res, hres⟩ : ∃ res, res = lassoActs (actE EP) stem loop := ⟨_, rfl⟩
 rw [← hres]
 obtain ⟨wA, hwA⟩ : ∃ wA, wA = w.alloc (.cells #[.int .i64 kind, .int .i64 why, .int .i64 nodes, .int .i64 edges, .int .i64 depth, .slice sa stem.length sc, .slice la loop.length lc] TFd) := ⟨_, rfl⟩
 have bA : Below w.heap.size w wA := by rw [hwA]; exact balloc (Below.refl _ _) _
 have rA : RowAt wA w.heap.size TFd [.int .i64 kind, .int .i64 why, .int .i64 nodes, .int .i64 edges, .int .i64 depth, .slice sa stem.length sc, .slice la loop.length lc] := by
  rw [hwA]
  exact RowAt.new #[.int .i64 kind, .int .i64 why, .int .i64 nodes, .int .i64 edges, .int .i64 depth, .slice sa stem.length sc, .slice la loop.length lc] rfl
 have x6 : wA.cell? ⟨w.heap.size, 6, none⟩ = some (.slice la loop.length lc) := rA.cell 6
 have x5 : wA.cell? ⟨w.heap.size, 5, none⟩ = some (.slice sa stem.length sc) := rA.cell 5
 have hcl : loop = [] ∨ ∃ z r, loop = z :: r := by cases loop with
  | nil => exact .inl rfl
  | cons z r => exact .inr ⟨z, r, rfl⟩
 rcases hcl with hlo | ⟨z, r, hlo⟩
 ·subst hlo
  have hr : Hid (res = ([], [])) := hres
  simp only [List.length_nil] at hwA x6
  go_enter Try.func18, Try.ntmps18
  go_wp2
  rw [← hwA]
  go_wp2
  refine bodyPost_ret (v := .tuple #[.slice none 0 0, .slice none 0 0]) (by simp [results, Try.results18, go_sem]) rfl ?_
  rw [hr.out]
  exact ⟨bA, TwoAt.nil _⟩
 ·have h0 : 0 < loop.length := by rw [hlo]; simp
  obtain ⟨lb, lo, rfl, hlb, y0, y1, y2⟩ := (hpl.below bA).at 0 h0
  have hz : loop[0] = z := by simp only [hlo]; rfl
  rw [hz] at y0 y1 y2
  simp only [Nat.zero_mul, Nat.add_zero] at y0 y1 y2
  obtain ⟨o1, ho1⟩ : ∃ o, o = chain (actE EP) (stem ++ [z]) := ⟨_, rfl⟩
  obtain ⟨o2, ho2⟩ : ∃ o, o = chain (actE EP) (loop ++ [z]) := ⟨_, rfl⟩
  have hr : Hid (res = bothO o1 o2) := by
   show _ = _
   rw [hres, ho1, ho2, hlo]
   rfl
  have A1 : Hid (∀ v, Below w.heap.size w v → Calls Try.prog 46 #[pv, .slice sa stem.length sc, .agg #[.int .i64 z.node, .int .i64 z.state, .int .i64 z.turn]] v fun e w' => Below v.heap.size v w' ∧ ∃ (a : Option Addr) (m c : Nat) (xs : List Int), e = .returned (.tuple #[.slice a m c, .bool o1.isSome]) ∧ xs.length = m ∧ NumsAt .i64 w' a xs ∧ (o1.isSome = true → o1 = some xs)) := fun v hb => (acts_e v pv EP (fun u hu => EG u (btrans hb hu)) sa sc stem z (hps.below hb) hs).mono fun e w' hG => ⟨hG.1, by rw [ho1]; exact hG.2.parts⟩
  have A2 : Hid (∀ v, Below w.heap.size w v → Calls Try.prog 46 #[pv, .slice (some ⟨lb, lo, none⟩) loop.length lc, .agg #[.int .i64 z.node, .int .i64 z.state, .int .i64 z.turn]] v fun e w' => Below v.heap.size v w' ∧ ∃ (a : Option Addr) (m c : Nat) (xs : List Int), e = .returned (.tuple #[.slice a m c, .bool o2.isSome]) ∧ xs.length = m ∧ NumsAt .i64 w' a xs ∧ (o2.isSome = true → o2 = some xs)) := fun v hb => (acts_e v pv EP (fun u hu => EG u (btrans hb hu)) (some ⟨lb, lo, none⟩) lc loop z (hpl.below hb) hl).mono fun e w' hG => ⟨hG.1, by rw [ho2]; exact hG.2.parts⟩
  obtain ⟨n, hn⟩ : ∃ n, n = loop.length := ⟨_, rfl⟩
  have PL := Lib.hid (hpl.below bA)
  have S0 : Hid (∀ v, Below wA.heap.size wA v → v.cell? ⟨w.heap.size, 5, none⟩ = some (.slice sa stem.length sc) ∧ v.cell? ⟨w.heap.size, 6, none⟩ = some (.slice (some ⟨lb, lo, none⟩) n lc) ∧ v.cell? ⟨lb, lo, none⟩ = some (.int .i64 z.node) ∧ v.cell? ⟨lb, lo + 1, none⟩ = some (.int .i64 z.state) ∧ v.cell? ⟨lb, lo + 2, none⟩ = some (.int .i64 z.turn)) := fun v hb => by
   have r := rA.below hb
   rw [← hn] at r
   exact ⟨r.cell 5, r.cell 6, bcell hb y0, bcell hb y1, bcell hb y2⟩
  rw [← hn] at A2 h0 hwA x6 ⊢
  have h0I : (0 : Int) < (n : Int) := by omega
  have hnz : ((n : Int) == 0) = false := by simp; omega
  have hnz2 : ¬ n = 0 := by omega
  clear ho1 ho2 hres hlo hz hn hl hpl hps rA
  replace bA := Lib.hid bA
  obtain ⟨b1, hb1⟩ : ∃ b, b = o1.isSome := ⟨_, rfl⟩
  obtain ⟨b2, hb2⟩ : ∃ b, b = o2.isSome := ⟨_, rfl⟩
  rw [← hb1] at A1
  rw [← hb2] at A2
  replace hb1 := Lib.hid hb1
  replace hb2 := Lib.hid hb2
  go_enter Try.func18, Try.ntmps18
  go_wp2
  rw [← hwA]
  clear hwA
  go_wp2
  obtain ⟨s1, s2, s3, s4, s5⟩ := S0.out wA (Below.refl _ _)
  go_region_held3 (fun w' => w'.cell? ⟨w.heap.size, 5, none⟩ = some (.slice sa stem.length sc) ∧ w'.cell? ⟨w.heap.size, 6, none⟩ = some (.slice (some ⟨lb, lo, none⟩) n lc) ∧ w'.cell? ⟨lb, lo, none⟩ = some (.int .i64 z.node) ∧ w'.cell? ⟨lb, lo + 1, none⟩ = some (.int .i64 z.state) ∧ w'.cell? ⟨lb, lo + 2, none⟩ = some (.int .i64 z.turn)) (first | exact S0.out _ KS | exact S0.out _ (Below.refl _ _).drew) (first
   | (go_at_call 46; (with_reducible refine (A1.out _ (btrans bA.out (Below.refl _ _).drew)).mono ?_); rintro e w3 ⟨hb3, a, m, c, xs, rfl, hxl, hnx, hox⟩; have KS : Below wA.heap.size wA w3 := ⟨hb3.os, hb3.tape, hb3.output, hb3.size, hb3.block⟩))
  clear s1 s2 s3 s4 s5 hb3
  go_wp2
  obtain ⟨s1, s2, s3, s4, s5⟩ := S0.out w3 KS
  replace hnx := Lib.hid hnx
  replace hox := Lib.hid hox
  replace hxl := Lib.hid hxl
  go_region_held3 (fun w' => w'.cell? ⟨w.heap.size, 5, none⟩ = some (.slice sa stem.length sc) ∧ w'.cell? ⟨w.heap.size, 6, none⟩ = some (.slice (some ⟨lb, lo, none⟩) n lc) ∧ w'.cell? ⟨lb, lo, none⟩ = some (.int .i64 z.node) ∧ w'.cell? ⟨lb, lo + 1, none⟩ = some (.int .i64 z.state) ∧ w'.cell? ⟨lb, lo + 2, none⟩ = some (.int .i64 z.turn)) (first | exact S0.out _ KT | exact S0.out _ (btrans KS (Below.refl _ _).drew)) (first
   | (go_at_call 46; (with_reducible refine (A2.out _ (btrans bA.out (btrans KS (Below.refl _ _).drew))).mono ?_); rintro e w4 ⟨hb4, a2, m2, c2, ys, rfl, hyl, hny, hoy⟩; have hb4' : Below w3.heap.size w3 w4 := ⟨hb4.os, hb4.tape, hb4.output, hb4.size, hb4.block⟩; have KT : Below wA.heap.size wA w4 := btrans KS hb4'))
  clear s1 s2 s3 s4 s5
  replace hny := Lib.hid hny
  replace hoy := Lib.hid hoy
  replace hyl := Lib.hid hyl
  cases b1 with
  | false =>
   have hr2 : res = ([], []) := by
    have := hb1.out
    rw [hr.out]
    cases o1 with
    | none => rfl
    | some _ => cases this
   go_wp2
   refine bodyPost_ret (v := .tuple #[.slice none 0 0, .slice none 0 0]) (by simp [results, Try.results18, go_sem]) rfl ?_
   first | rw [hr2] | skip
   exact ⟨btrans bA.out KT, TwoAt.nil _⟩
  | true =>
   cases b2 with
   | false =>
    have hr2 : res = ([], []) := by
     have := hb2.out
     rw [hr.out]
     cases o2 with
     | none => cases o1 <;> rfl
     | some _ => cases this
    go_wp2
    refine bodyPost_ret (v := .tuple #[.slice none 0 0, .slice none 0 0]) (by simp [results, Try.results18, go_sem]) rfl ?_
    first | rw [hr2] | skip
    exact ⟨btrans bA.out KT, TwoAt.nil _⟩
   | true =>
    have hr2 : res = (xs, ys) := by
     rw [hr.out, hox.out rfl, hoy.out rfl]
     rfl
    have hnx4 := hnx.out.below hb4'
    replace hr2 := Lib.hid hr2
    go_wp2
    refine bodyPost_ret (v := .tuple #[.slice a m c, .slice a2 m2 c2]) (by simp [results, Try.results18, go_sem]) rfl ?_
    rw [hr2.out]
    exact ⟨btrans bA.out KT, a, c, a2, c2, by rw [hxl.out, hyl.out], hnx4, hny.out⟩
theorem actsV_any (w : World) (p : Nat) (G : GR) (sets : List (List Bool)) (A : AU) (hP : PrAt w p G sets A) (lt : Lt G sets A) (kind why nodes edges depth : Int) (sa la : Option Addr) (sc lc : Nat) (stem loop : List PP) (hps : PpsAt w sa stem) (hpl : PpsAt w la loop) (hs : stem.length ≤ 1000000) (hl : loop.length ≤ 1000000) :
  Calls Try.prog 18 #[.pointer (some ⟨p, 0, none⟩), .agg #[.int .i64 kind, .int .i64 why, .int .i64 nodes, .int .i64 edges, .int .i64 depth, .slice sa stem.length sc, .slice la loop.length lc]] w fun e w' => Below w.heap.size w w' ∧ TwoAt w' e (lassoActs (ndAct G sets A) stem loop) :=
 acts_v w (.pointer (some ⟨p, 0, none⟩)) (edgeP G sets A) (fun v hb x y => edge_any v p G sets A (hP.below hb) lt x y) kind why nodes edges depth sa la sc lc stem loop hps hpl hs hl
theorem actsOf_any (w : World) (p : Nat) (G : GR) (sets : List (List Bool)) (A : AU) (hP : PrAt w p G sets A) (lt : Lt G sets A) (v : Value) (f : NF) (h : FoundAt w v f) (hs : f.stem.length ≤ 1000000) (hl : f.loop.length ≤ 1000000) :
  Calls Try.prog 18 #[.pointer (some ⟨p, 0, none⟩), v] w fun e w' => Below w.heap.size w w' ∧ TwoAt w' e (lassoActs (ndAct G sets A) f.stem f.loop) := by
 obtain ⟨sa, sc, la, lc, rfl, hps, hpl⟩ := h
 exact actsV_any w p G sets A hP lt _ _ _ _ _ sa la sc lc f.stem f.loop hps hpl hs hl
end Go.Proofs.Ytfcpfcgcfaacnaa
