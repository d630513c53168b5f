/- The edge by which a pair of a product leads to another one. Conditions: a product that New made, and a small one. -/
import Derived.Test.YtmlbjfaofppikaaPrCont
namespace Go.Proofs.Ytmlbjfaofppikaa
open Go.RowKit

/-- an edge, or none, as values -/
def edv : Option PR → Value
  | some e => .agg #[.int .i64 e.1, .int .i64 e.2]
  | none => .agg #[.int .i64 0, .int .i64 0]
theorem bsetN {w w1 : World} {n j : Nat} {v : Value} (h : Below w.heap.size w w1) (hn : w.heap.size ≤ n) : Below w.heap.size w (w1.setCell ⟨n, j, none⟩ v) := h.setCell (by exact hn) v
theorem nextTo_len (G : GR) (T : Int) (tt : List Int) (A : AU) (es : List PR) : (nextTo G T es tt A).length ≤ es.length * tt.length := by
  induction es using snoc_rec with
  | h0 => simp [nextTo]
  | h1 l e ih =>
    rw [nextTo_snoc]
    have := pairsP_len A (labP G e.1) e.1 T tt (nextTo G T l tt A)
    rw [List.length_append, List.length_singleton, Nat.succ_mul]
    omega
theorem edgesP_len {G : GR} {sets : List (List Bool)} {A : AU} (lt : Lt G sets A) (n : Int) : (edgesP G n).length ≤ 12 := by
  unfold edgesP
  split
  · rename_i hin
    unfold inG at hin
    simp at hin
    have hl : n.toNat < G.edges.length := by omega
    rw [List.getD_eq_getElem?_getD, List.getElem?_eq_getElem hl]
    exact lt.r _ (List.getElem_mem hl)
  · simp
theorem nextP_len {G : GR} {sets : List (List Bool)} {A : AU} (lt : Lt G sets A) (x : PP) : (nextP G sets A x).length ≤ 144 := by
  unfold nextP
  split
  · rename_i hi
    obtain ⟨k, t, hxs, hxt, hk, htm⟩ := isP_range hi
    have h1 := nextTo_len G (turnP G sets A x) (nodeP A x.state).to A (edgesP G x.node)
    have h2 := edgesP_len lt x.node
    have h3 : (nodeP A x.state).to.length ≤ 12 := by rw [hxs, nodeP_at hk]; exact lt.t _ (List.getElem_mem hk)
    have h4 := Nat.mul_le_mul h2 h3
    exact Nat.le_trans h1 h4
  · simp
set_option maxHeartbeats 4000000 in
theorem edge_any (w : World) (p : Nat) (G : GR) (sets : List (List Bool)) (A : AU) (h : PrAt w p G sets A) (lt : Lt G sets A) (x y : PP) :
    Calls Try.prog 17 #[.pointer (some ⟨p, 0, none⟩), ppv x, ppv y] w fun e w' => e = .returned (.tuple #[edv (edgeP G sets A x y), .bool (edgeP G sets A x y).isSome]) ∧ Below w.heap.size w w' := by
  have rx := RowAt.new (w := w) (T := TPP) #[.int .i64 x.node, .int .i64 x.state, .int .i64 x.turn] rfl
  have ry := RowAt.new (w := w.alloc (.cells #[.int .i64 x.node, .int .i64 x.state, .int .i64 x.turn] TPP)) (T := TPP) #[.int .i64 y.node, .int .i64 y.state, .int .i64 y.turn] rfl
  have re := RowAt.new (w := (w.alloc (.cells #[.int .i64 x.node, .int .i64 x.state, .int .i64 x.turn] TPP)).alloc (.cells #[.int .i64 y.node, .int .i64 y.state, .int .i64 y.turn] TPP)) (T := TE) #[.int .i64 0, .int .i64 0] rfl
  have rx3 := (rx.alloc (.cells #[.int .i64 y.node, .int .i64 y.state, .int .i64 y.turn] TPP)).alloc (.cells #[.int .i64 0, .int .i64 0] TE)
  have ry3 := ry.alloc (.cells #[.int .i64 0, .int .i64 0] TE)
  have hb3 := balloc (balloc (balloc (Below.refl w.heap.size w) (.cells #[.int .i64 x.node, .int .i64 x.state, .int .i64 x.turn] TPP)) (.cells #[.int .i64 y.node, .int .i64 y.state, .int .i64 y.turn] TPP)) (.cells #[.int .i64 0, .int .i64 0] TE)
  have hsz : (((w.alloc (.cells #[.int .i64 x.node, .int .i64 x.state, .int .i64 x.turn] TPP)).alloc (.cells #[.int .i64 y.node, .int .i64 y.state, .int .i64 y.turn] TPP)).alloc (.cells #[.int .i64 0, .int .i64 0] TE)).heap.size = w.heap.size + 1 + 1 + 1 := by simp
  have hz1 : (w.alloc (.cells #[.int .i64 x.node, .int .i64 x.state, .int .i64 x.turn] TPP)).heap.size = w.heap.size + 1 := by simp
  have hz2 : ((w.alloc (.cells #[.int .i64 x.node, .int .i64 x.state, .int .i64 x.turn] TPP)).alloc (.cells #[.int .i64 y.node, .int .i64 y.state, .int .i64 y.turn] TPP)).heap.size = w.heap.size + 1 + 1 := by simp
  rw [hz1] at ry3
  rw [hz2] at re
  have hP := Lib.hid (fun wr (hb : Below w.heap.size w wr) => h.below hb)
  have NX := Lib.hid (fun wr (hb : Below w.heap.size w wr) => next_any wr p G sets A (h.below hb) lt x)
  have hnl := nextP_len lt x
  have hel := edgesP_len lt x.node
  obtain ⟨R, hR⟩ : ∃ R, R = edgeP G sets A x y := ⟨_, rfl⟩
  rw [← hR]
  replace hR : Hid (R = if y ∈ nextP G sets A x then (edgesP G x.node).find? (fun e => e.1 == y.node) else none) := hR
  obtain ⟨nl, hnle⟩ : ∃ nl, nl = nextP G sets A x := ⟨_, rfl⟩
  rw [← hnle] at NX hnl hR
  obtain ⟨es, hes⟩ : ∃ es, es = edgesP G x.node := ⟨_, rfl⟩
  rw [← hes] at hel hR
  have E : ∃ f, Hid (∀ wr, Below w.heap.size w wr → wr.cell? ⟨p, 0, none⟩ = some (.iface TFp (.pointer (some ⟨f, 0, none⟩))) ∧ Calls Try.prog 77 #[.pointer (some ⟨f, 0, none⟩), .int .i64 x.node] wr (ClonedP es wr)) := by
    obtain ⟨f, ai, an, ci, cn, h⟩ := h
    refine ⟨f, fun wr hb => ?_⟩
    have := fedges_any wr f G _ _ (h.fx.below hb) (fun l hl => by have := h.ok.rows l hl; omega) x.node
    rw [← hes] at this
    exact ⟨(h.row.below hb).cell 0, this⟩
  obtain ⟨f, E⟩ := E
  have CT := Lib.hid (fun wr a c (hh : PpsAt wr a nl) => contq_any wr a c nl hh y (by omega))
  obtain ⟨d, hd⟩ : ∃ d, d = decide (y ∈ nl) := ⟨_, rfl⟩
  rw [← hd] at CT
  replace hR : Hid (R = if d = true then es.find? (fun e => e.1 == y.node) else none) := by
    show _ = _
    rw [hR.out, hd]
    by_cases hm : y ∈ nl <;> simp [hm]
  obtain ⟨xn, xs, xt⟩ := x
  obtain ⟨yn, ys, yt⟩ := y
  simp only at rx3 ry3 re hb3 NX CT E hsz hR
  obtain ⟨w3, hw3⟩ : ∃ w3, ((w.alloc (.cells #[.int .i64 xn, .int .i64 xs, .int .i64 xt] TPP)).alloc (.cells #[.int .i64 yn, .int .i64 ys, .int .i64 yt] TPP)).alloc (.cells #[.int .i64 0, .int .i64 0] TE) = w3 := ⟨_, rfl⟩
  rw [hw3] at rx3 ry3 re hb3 hsz
  replace hb3 := Lib.hid hb3
  have x0 : w3.cell? ⟨w.heap.size, 0, none⟩ = some (.int .i64 xn) := rx3.cell 0
  have x1 : w3.cell? ⟨w.heap.size, 1, none⟩ = some (.int .i64 xs) := rx3.cell 1
  have x2 : w3.cell? ⟨w.heap.size, 2, none⟩ = some (.int .i64 xt) := rx3.cell 2
  have y0 : w3.cell? ⟨w.heap.size + 1, 0, none⟩ = some (.int .i64 yn) := ry3.cell 0
  have y1 : w3.cell? ⟨w.heap.size + 1, 1, none⟩ = some (.int .i64 ys) := ry3.cell 1
  have y2 : w3.cell? ⟨w.heap.size + 1, 2, none⟩ = some (.int .i64 yt) := ry3.cell 2
  have SB : Hid (∀ w', Below w3.heap.size w3 w' → w'.cell? ⟨w.heap.size, 0, none⟩ = some (.int .i64 xn) ∧ w'.cell? ⟨w.heap.size, 1, none⟩ = some (.int .i64 xs) ∧ w'.cell? ⟨w.heap.size, 2, none⟩ = some (.int .i64 xt) ∧ w'.cell? ⟨w.heap.size + 1, 0, none⟩ = some (.int .i64 yn) ∧ w'.cell? ⟨w.heap.size + 1, 1, none⟩ = some (.int .i64 ys) ∧ w'.cell? ⟨w.heap.size + 1, 2, none⟩ = some (.int .i64 yt)) := fun w' hb => ⟨bcell hb x0, bcell hb x1, bcell hb x2, bcell hb y0, bcell hb y1, bcell hb y2⟩
  replace rx3 := Lib.hid rx3
  replace ry3 := Lib.hid ry3
  replace re := Lib.hid re
  clear rx ry hz1 hz2 hnle hes hd h lt
  go_enter Try.func17, Try.ntmps17
  go_upto_region 1 with (fail)
  clear hw3
  go_region_held3 (fun w' => w'.cell? ⟨w.heap.size, 0, none⟩ = some (.int .i64 xn) ∧ w'.cell? ⟨w.heap.size, 1, none⟩ = some (.int .i64 xs) ∧ w'.cell? ⟨w.heap.size, 2, none⟩ = some (.int .i64 xt) ∧ w'.cell? ⟨w.heap.size + 1, 0, none⟩ = some (.int .i64 yn) ∧ w'.cell? ⟨w.heap.size + 1, 1, none⟩ = some (.int .i64 ys) ∧ w'.cell? ⟨w.heap.size + 1, 2, none⟩ = some (.int .i64 yt)) (first | exact SB.out _ B2 | exact SB.out _ B1 | exact SB.out _ (Below.refl _ _).drew | exact SB.out _ (Below.refl _ _)) (first
    | (go_at_call 15; (with_reducible refine (NX.out _ hb3.out.drew).mono ?_); rintro e w4 ⟨an, cn, rfl, hO, hb4⟩; have B1 : Below w3.heap.size w3 w4 := btrans (Below.refl _ _).drew hb4; replace hO := Lib.hid (PpsAt.of_own hO))
    | (go_at_call 38; (with_reducible refine (CT.out _ _ _ hO.out).mono ?_); rintro e w5 ⟨rfl, hb5⟩; have B2 : Below w3.heap.size w3 w5 := btrans B1 hb5))
  have hb5 : Below w.heap.size w w5 := btrans hb3.out B2
  have re5 := Lib.hid (re.out.below B2)
  have rx5 := Lib.hid (rx3.out.below B2)
  have ry5 := Lib.hid (ry3.out.below B2)
  have v0 : w5.cell? ⟨w.heap.size + 1 + 1, 0, none⟩ = some (.int .i64 0) := re5.out.cell 0
  have v1 : w5.cell? ⟨w.heap.size + 1 + 1, 1, none⟩ = some (.int .i64 0) := re5.out.cell 1
  have g0 : w5.frozen? ⟨w.heap.size + 1 + 1, 0, none⟩ = false := re5.out.free 0
  have g1 : w5.frozen? ⟨w.heap.size + 1 + 1, 1, none⟩ = false := re5.out.free 1
  have hz5 : w.heap.size + 1 + 1 + 1 ≤ w5.heap.size := by have := B2.size; omega
  replace hb5 := Lib.hid hb5
  clear SB B1 B2 hO hb4 NX CT x0 x1 x2 y0 y1 y2 rx3 ry3 re hb3 hsz
  cases d with
  | false =>
    have hR2 : Hid (R = none) := by show _ = _; rw [hR.out]; rfl
    clear hR
    go_wp2
    have rE := Lib.hid ((re5.out.set 0 (.int .i64 0)).set 1 (.int .i64 0))
    have f0 := rE.out.cell 0
    have f1 := rE.out.cell 1
    refine bodyPost_ret (v := .tuple #[.agg #[.int .i64 0, .int .i64 0], .bool false]) (by simp [results, Try.results17, go_sem, f0, f1]) rfl ⟨by rw [hR2.out]; rfl, bsetN (bsetN hb5.out (by omega)) (by omega)⟩
  | true =>
    have hR2 : Hid (R = es.find? (fun e => e.1 == yn)) := by show _ = _; rw [hR.out]; rfl
    clear hR
    have c0 := (E.out _ hb5.out).1
    have x0 : w5.cell? ⟨w.heap.size, 0, none⟩ = some (.int .i64 xn) := rx5.out.cell 0
    have hM := meth_Edges
    have SB : Hid (∀ w', Below w5.heap.size w5 w' → w'.cell? ⟨p, 0, none⟩ = some (.iface TFp (.pointer (some ⟨f, 0, none⟩))) ∧ w'.cell? ⟨w.heap.size, 0, none⟩ = some (.int .i64 xn)) := fun w' hb => ⟨bcell hb c0, bcell hb x0⟩
    go_wp2
    go_region_held3 (fun w' => w'.cell? ⟨p, 0, none⟩ = some (.iface TFp (.pointer (some ⟨f, 0, none⟩))) ∧ w'.cell? ⟨w.heap.size, 0, none⟩ = some (.int .i64 xn)) (first | exact SB.out _ B3 | exact SB.out _ (Below.refl _ _).drew | exact SB.out _ (Below.refl _ _)) (first
      | (go_at_call 77; (with_reducible refine (E.out _ hb5.out.drew).2.mono ?_); rintro e w6 ⟨a0, k0, rfl, hO, hb6⟩; have B3 : Below w5.heap.size w5 w6 := btrans (Below.refl _ _).drew hb6; replace hO := Lib.hid (PairsAt.of_own hO)))
    have re6 := Lib.hid (re5.out.below B3)
    have ry6 := Lib.hid (ry5.out.below B3)
    have hb6' := Lib.hid (btrans hb5.out B3)
    have hz6 : w.heap.size + 1 + 1 + 1 ≤ w6.heap.size := by have := B3.size; omega
    clear v0 v1 g0 g1 c0 x0 hM SB B3 re5 rx5 ry5 hz5 hb6 hb5 E
    go_wp2
    go_loopw [7, 25] (fun bv iv wr => ∃ k : Nat, bv = .bool false ∧ k ≤ es.length ∧ iv = .int .i64 k ∧ Below w6.heap.size w6 wr ∧ Hid ((es.take k).find? (fun e => e.1 == yn) = none)) (fun _ iv _ => es.length - (intOf iv).toNat)
    case atStart => exact ⟨0, rfl, Nat.zero_le _, rfl, Below.refl _ _, rfl⟩
    case round =>
      obtain ⟨k, rfl, hk, rfl, hbr, hn⟩ := hrel
      by_cases hlt : k < es.length
      · obtain ⟨g, off, ha0, hgl, e0, e1⟩ := (hO.out.below hbr).at k hlt
        have hst : Hid (∀ o, (if es[k].1 == yn then some es[k] else none) = o → (es.take (k + 1)).find? (fun e => e.1 == yn) = o) := fun o ho => by
          rw [List.take_add_one, List.getElem?_eq_getElem hlt, Option.toList_some, List.find?_append, hn.out, ← ho]
          simp only [Option.none_or, List.find?_cons, List.find?_nil]
          cases es[k].1 == yn <;> rfl
        have hfin : Hid (es[k].1 = yn → R = some es[k]) := fun he => by
          rw [hR2.out]
          have h1 := hst.out _ rfl
          rw [he, if_pos (by simp)] at h1
          calc es.find? (fun e => e.1 == yn) = (es.take (k + 1) ++ es.drop (k + 1)).find? (fun e => e.1 == yn) := by rw [List.take_append_drop]
            _ = some es[k] := by rw [List.find?_append, h1]; rfl
        obtain ⟨ev, hev⟩ : ∃ ev, ev = es[k] := ⟨_, rfl⟩
        rw [← hev] at e0 e1 hst hfin
        obtain ⟨u, v⟩ := ev
        simp only at e0 e1 hst hfin
        have hbe := balloc (Below.refl wr.heap.size wr) (.cells #[.int .i64 u, .int .i64 v] TE)
        have y0 : wr.cell? ⟨w.heap.size + 1, 0, none⟩ = some (.int .i64 yn) := (ry6.out.below hbr).cell 0
        have r6 := re6.out.below hbr
        have v0 : wr.cell? ⟨w.heap.size + 1 + 1, 0, none⟩ = some (.int .i64 0) := r6.cell 0
        have v1 : wr.cell? ⟨w.heap.size + 1 + 1, 1, none⟩ = some (.int .i64 0) := r6.cell 1
        have g0 : wr.frozen? ⟨w.heap.size + 1 + 1, 0, none⟩ = false := r6.free 0
        have g1 : wr.frozen? ⟨w.heap.size + 1 + 1, 1, none⟩ = false := r6.free 1
        have hlt2 : (k : Int) < (es.length : Int) := by omega
        have hzr := hbr.size
        have r7 := Lib.hid (r6.alloc (.cells #[.int .i64 u, .int .i64 v] TE))
        have y0' : (wr.alloc (.cells #[.int .i64 u, .int .i64 v] TE)).cell? ⟨w.heap.size + 1, 0, none⟩ = some (.int .i64 yn) := bcell hbe y0
        have v0' : (wr.alloc (.cells #[.int .i64 u, .int .i64 v] TE)).cell? ⟨w.heap.size + 1 + 1, 0, none⟩ = some (.int .i64 0) := r7.out.cell 0
        have v1' : (wr.alloc (.cells #[.int .i64 u, .int .i64 v] TE)).cell? ⟨w.heap.size + 1 + 1, 1, none⟩ = some (.int .i64 0) := r7.out.cell 1
        have g0' : (wr.alloc (.cells #[.int .i64 u, .int .i64 v] TE)).frozen? ⟨w.heap.size + 1 + 1, 0, none⟩ = false := r7.out.free 0
        have g1' : (wr.alloc (.cells #[.int .i64 u, .int .i64 v] TE)).frozen? ⟨w.heap.size + 1 + 1, 1, none⟩ = false := r7.out.free 1
        subst ha0
        replace hbr := Lib.hid hbr
        replace hbe := Lib.hid hbe
        clear hev hn r6
        by_cases huv : u = yn
        · have hub : (u == yn) = true := by simpa using huv
          have hr := Lib.hid (hfin.out huv)
          clear hst hfin huv
          go_wp2
          have rE := Lib.hid ((r7.out.set 0 (.int .i64 u)).set 1 (.int .i64 v))
          have f0 := rE.out.cell 0
          have f1 := rE.out.cell 1
          refine bodyPost_ret (v := .tuple #[.agg #[.int .i64 u, .int .i64 v], .bool true]) (by simp [results, Try.results17, go_sem, f0, f1]) rfl ⟨by rw [hr.out]; rfl, bsetN (bsetN (btrans hb6'.out (btrans hbr.out hbe.out)) (by omega)) (by omega)⟩
        · have hub : (u == yn) = false := by simpa using huv
          have hs2 : Hid ((es.take (k + 1)).find? (fun e => e.1 == yn) = none) := hst.out _ (by rw [hub]; rfl)
          clear hst hfin huv
          go_wp2
          go_roundw
          case rel => exact ⟨k + 1, rfl, by omega, by go_num, btrans hbr.out hbe.out, hs2⟩
          case measure => simp [intOf]; omega
      · have hke : k = es.length := by omega
        subst hke
        rw [List.take_length] at hn
        have r6 := re6.out.below hbr
        have v0 : wr.cell? ⟨w.heap.size + 1 + 1, 0, none⟩ = some (.int .i64 0) := r6.cell 0
        have v1 : wr.cell? ⟨w.heap.size + 1 + 1, 1, none⟩ = some (.int .i64 0) := r6.cell 1
        have g0 : wr.frozen? ⟨w.heap.size + 1 + 1, 0, none⟩ = false := r6.free 0
        have g1 : wr.frozen? ⟨w.heap.size + 1 + 1, 1, none⟩ = false := r6.free 1
        replace r6 := Lib.hid r6
        have hR3 : Hid (R = none) := hR2.out.trans hn.out
        replace hbr := Lib.hid hbr
        clear hn hR2
        go_wp2
        have rE := Lib.hid ((r6.out.set 0 (.int .i64 0)).set 1 (.int .i64 0))
        have f0 := rE.out.cell 0
        have f1 := rE.out.cell 1
        refine bodyPost_ret (v := .tuple #[.agg #[.int .i64 0, .int .i64 0], .bool false]) (by simp [results, Try.results17, go_sem, f0, f1]) rfl ⟨by rw [hR3.out]; rfl, bsetN (bsetN (btrans hb6'.out hbr.out) (by omega)) (by omega)⟩
end Go.Proofs.Ytmlbjfaofppikaa
