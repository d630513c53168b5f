/- The document's Same, of any two automata. Conditions: the bounds that an argument brings along. -/
import Derived.Test.YtjacphcnanopjaaDoorAtS
namespace Go.Proofs.YtjacphcnanopjaaDoor
open Go.RowKit

theorem getD_at (l : List Int) (k : Nat) (h : k < l.length) : l.getD k 0 = l[k] := by simp [List.getD, h]
theorem take_eq_succ {α : Type} {xs ys : List α} {k : Nat} (h : xs.take k = ys.take k) (h1 : k < xs.length) (h2 : k < ys.length) (e : xs[k] = ys[k]) : xs.take (k + 1) = ys.take (k + 1) := by
  rw [List.take_succ_eq_append_getElem h1, List.take_succ_eq_append_getElem h2, h, e]
theorem take_all {α : Type} {xs ys : List α} (hl : xs.length = ys.length) (h : xs.take xs.length = ys.take xs.length) : xs = ys := by
  rw [List.take_length] at h
  rw [h, hl, List.take_length]
theorem ints_any (w : World) (a b : Option Addr) (c d : Nat) (xs ys : List Int) (h1 : NumsAt .i64 w a xs) (h2 : NumsAt .i64 w b ys) (hl : xs.length ≤ 9223372036854775807) (hm : ys.length ≤ 9223372036854775807) :
    Calls Tryd.prog 30 #[.slice a xs.length c, .slice b ys.length d] w fun e w' => e = .returned (.bool (decide (xs = ys))) ∧ Quiet w w' := by
  go_enter Tryd.func30, Tryd.ntmps30
  by_cases hlen : xs.length = ys.length
  · have hln : ((xs.length : Int) != (ys.length : Int)) = false := by simp [hlen]
    go_wp2
    go_loopw [5] (fun i wr => ∃ k m : Nat, k ≤ xs.length ∧ i = .int .i64 k ∧ wr = w.drewN m ∧ Hid (xs.take k = ys.take k)) (fun i _ => xs.length - (intOf i).toNat)
    case atStart => exact ⟨0, 0, Nat.zero_le _, rfl, rfl, rfl⟩
    case round =>
      obtain ⟨k, m, hk, rfl, rfl, ht⟩ := hrel
      by_cases hlt : k < xs.length
      · obtain ⟨b1, o1, x, rfl, c1, hx⟩ := h1.at k hlt
        obtain ⟨b2, o2, y, rfl, c2, hy⟩ := h2.at k (by omega)
        have hx1 : x = xs[k] := by rw [hx.out, getD_at]
        have hy1 : y = ys[k]'(by omega) := by rw [hy.out, getD_at]
        have hki : (k : Int) < (xs.length : Int) := by omega
        clear hx hy
        by_cases hxy : x = y
        · have hxx : (x != y) = false := by simp [hxy]
          have hT : Hid (xs.take (k + 1) = ys.take (k + 1)) := take_eq_succ ht.out hlt (by omega) (by rw [← hx1, ← hy1, hxy])
          clear hx1 hy1 hxy
          go_wp2
          go_quiet (fail)
          go_wp2
          go_roundw
          case rel => exact ⟨k + 1, _, by omega, by go_num, by first | rfl | exact World.drewN_drewN _ _ _, hT⟩
          case measure => simp [intOf]; omega
        · have hxx : (x != y) = true := by simp [hxy]
          have hT : Hid (decide (xs = ys) = false) := by
            refine decide_eq_false fun h => hxy ?_
            subst h
            rw [hx1, hy1]
          clear hx1 hy1 hxy
          go_wp2
          go_quiet (fail)
          go_wp2
          go_ret
          first | exact ⟨by rw [hT.out]; rfl, Quiet.one _ _⟩ | exact ⟨by rw [hT.out]; rfl, m + nq, World.drewN_drewN _ _ _⟩ | exact ⟨by rw [hT.out]; rfl, 0, rfl⟩
      · obtain rfl : k = xs.length := by omega
        have hT : Hid (decide (xs = ys) = true) := decide_eq_true (take_all hlen ht.out)
        go_wp2
        go_ret
        first | exact ⟨by rw [hT.out]; rfl, Quiet.one _ _⟩ | exact ⟨by rw [hT.out]; rfl, m + nq, World.drewN_drewN _ _ _⟩ | exact ⟨by rw [hT.out]; rfl, 0, rfl⟩
  · have hln : ((xs.length : Int) != (ys.length : Int)) = true := by simp; omega
    have hT : Hid (decide (xs = ys) = false) := decide_eq_false fun h => hlen (by rw [h])
    go_wp2
    go_ret
    first | exact ⟨by rw [hT.out]; rfl, Quiet.one _ _⟩ | exact ⟨by rw [hT.out]; rfl, m + nq, World.drewN_drewN _ _ _⟩ | exact ⟨by rw [hT.out]; rfl, 0, rfl⟩

def SamV (w : World) (A B : AU) (e : Ending) (w' : World) : Prop := e = .returned (.bool (decide (A = B))) ∧ Below w.heap.size w w'
theorem SamV.no {w w' : World} {A B : AU} (h : A ≠ B) (hb : Below w.heap.size w w') : SamV w A B (.returned (.bool false)) w' := ⟨by rw [decide_eq_false h], hb⟩
theorem SamV.yes {w w' : World} {A B : AU} (h : A = B) (hb : Below w.heap.size w w') : SamV w A B (.returned (.bool true)) w' := ⟨by rw [decide_eq_true h], hb⟩
set_option maxHeartbeats 8000000 in
theorem same_any (w : World) (ai an bi bn : Option Addr) (ci cn di dn : Nat) (A B : AU) (h1 : AuAt w ai A.init.length an A.nodes.length A) (h2 : AuAt w bi B.init.length bn B.nodes.length B) (okA : AuOk A) (okB : AuOk B) :
    Calls Tryd.prog 14 #[.agg #[.int .i64 A.sets, .slice ai A.init.length ci, .slice an A.nodes.length cn], .agg #[.int .i64 B.sets, .slice bi B.init.length di, .slice bn B.nodes.length dn]] w (SamV w A B) := by
  obtain ⟨s, init, nodes⟩ := A
  obtain ⟨s', init', nodes'⟩ := B
  have n1 := h1.nodes
  have n2 := h2.nodes
  have i1 := h1.init
  have i2 := h2.init
  have hi := okA.initL
  have hi' := okB.initL
  have hnl := okA.nodesL
  have hnl' := okB.nodesL
  have hto : ∀ x ∈ nodes, x.to.length ≤ 17592186043904 := fun x hx => (okA.nodes x hx).2.2.2.1
  have hto' : ∀ x ∈ nodes', x.to.length ≤ 17592186043904 := fun x hx => (okB.nodes x hx).2.2.2.1
  simp only at n1 n2 i1 i2 hi hi' hnl hnl' ⊢
  have hb0 : Below w.heap.size w ((w.alloc (.cells #[.int .i64 s, .slice ai init.length ci, .slice an nodes.length cn] AUT)).alloc (.cells #[.int .i64 s', .slice bi init'.length di, .slice bn nodes'.length dn] AUT)) := balloc (balloc (Below.refl _ _) _) _
  have rA := (RowAt.new (w := w) (T := AUT) #[.int .i64 s, .slice ai init.length ci, .slice an nodes.length cn] rfl).alloc (.cells #[.int .i64 s', .slice bi init'.length di, .slice bn nodes'.length dn] AUT)
  have rB := RowAt.new (w := w.alloc (.cells #[.int .i64 s, .slice ai init.length ci, .slice an nodes.length cn] AUT)) (T := AUT) (n := w.heap.size + 1) #[.int .i64 s', .slice bi init'.length di, .slice bn nodes'.length dn] (by simp)
  have II := Lib.hid (ints_any _ ai bi ci di init init' (i1.below hb0) (i2.below hb0) (by omega) (by omega))
  replace rA := Lib.hid rA
  replace rB := Lib.hid rB
  replace hb0 := Lib.hid hb0
  replace n1 := Lib.hid n1
  replace n2 := Lib.hid n2
  replace hto := Lib.hid hto
  replace hto' := Lib.hid hto'
  clear h1 h2 i1 i2 okA okB
  go_enter Tryd.func14, Tryd.ntmps14
  by_cases es : s = s'
  case neg =>
    have hss : (s != s') = true := by simp [es]
    have hno : Hid ((⟨s, init, nodes⟩ : AU) ≠ ⟨s', init', nodes'⟩) := fun h => es (by injection h)
    clear II
    go_wp2
    go_ret
    exact SamV.no hno.out hb0.out
  have hss : (s != s') = false := by simp [es]
  replace es := Lib.hid es
  go_wp2_with fail
  refine II.out.mono ?_
  rintro e w1 ⟨rfl, m1, rfl⟩
  have sA := rA.out.drewN m1
  have sB := rB.out.drewN m1
  have hb1 := bdrewN hb0.out m1
  clear II
  by_cases ei : init = init'
  case neg =>
    have hno : Hid ((⟨s, init, nodes⟩ : AU) ≠ ⟨s', init', nodes'⟩) := fun h => ei (by injection h)
    rw [decide_eq_false ei]
    replace sA := Lib.hid sA
    replace sB := Lib.hid sB
    replace hb1 := Lib.hid hb1
    go_wp2
    go_ret
    exact SamV.no hno.out hb1.out
  rw [decide_eq_true ei]
  replace ei := Lib.hid ei
  by_cases el : nodes.length = nodes'.length
  case neg =>
    have hno : Hid ((⟨s, init, nodes⟩ : AU) ≠ ⟨s', init', nodes'⟩) := fun h => el (by injection h with _ _ h; rw [h])
    have hll : ((nodes.length : Int) != (nodes'.length : Int)) = true := by simp; omega
    generalize ((w.alloc (.cells #[.int .i64 s, .slice ai init.length ci, .slice an nodes.length cn] AUT)).alloc (.cells #[.int .i64 s', .slice bi init'.length di, .slice bn nodes'.length dn] AUT)).drewN m1 = w1 at sA sB hb1 ⊢
    have a2 : w1.cell? ⟨w.heap.size, 2, none⟩ = some (.slice an nodes.length cn) := sA.cell 2
    have b2 : w1.cell? ⟨w.heap.size + 1, 2, none⟩ = some (.slice bn nodes'.length dn) := sB.cell 2
    have hla := sA.lt
    have hlb := sB.lt
    go_wp2
    go_ret
    exact SamV.no hno.out hb1
  have hll : ((nodes.length : Int) != (nodes'.length : Int)) = false := by simp [el]
  generalize ((w.alloc (.cells #[.int .i64 s, .slice ai init.length ci, .slice an nodes.length cn] AUT)).alloc (.cells #[.int .i64 s', .slice bi init'.length di, .slice bn nodes'.length dn] AUT)).drewN m1 = w1 at sA sB hb1 ⊢
  have a2 : w1.cell? ⟨w.heap.size, 2, none⟩ = some (.slice an nodes.length cn) := sA.cell 2
  have b2 : w1.cell? ⟨w.heap.size + 1, 2, none⟩ = some (.slice bn nodes'.length dn) := sB.cell 2
  have hla := sA.lt
  have hlb := sB.lt
  go_wp2
  clear a2 b2 hla hlb
  go_loopw [5] (fun iv wr => ∃ k : Nat, k ≤ nodes.length ∧ iv = .int .i64 k ∧ Hid (nodes.take k = nodes'.take k) ∧ RowAt wr w.heap.size AUT [.int .i64 s, .slice ai init.length ci, .slice an nodes.length cn] ∧ RowAt wr (w.heap.size + 1) AUT [.int .i64 s', .slice bi init'.length di, .slice bn nodes'.length dn] ∧ Below w.heap.size w wr) (fun iv _ => nodes.length - (intOf iv).toNat)
  case atStart => exact ⟨0, Nat.zero_le _, rfl, rfl, sA, sB, hb1⟩
  case round =>
    obtain ⟨k, hk, rfl, htk, tA, tB, hb⟩ := hrel
    clear sA sB hb1
    have a2 : wr.cell? ⟨w.heap.size, 2, none⟩ = some (.slice an nodes.length cn) := tA.cell 2
    have b2 : wr.cell? ⟨w.heap.size + 1, 2, none⟩ = some (.slice bn nodes'.length dn) := tB.cell 2
    have hla := tA.lt
    have hlb := tB.lt
    by_cases hlt : k < nodes.length
    · have hlt' : k < nodes'.length := by omega
      obtain ⟨bb, of1, hab, p0, p1, p2, at1, ct1, p3, ht1⟩ := (n1.out.below hb).at k hlt
      obtain ⟨bd, of2, hbb, q0, q1, q2, at2, ct2, q3, ht2⟩ := (n2.out.below hb).at k hlt'
      have hx := hto.out _ (List.getElem_mem hlt)
      have hy := hto'.out _ (List.getElem_mem hlt')
      have htk1 : Hid (nodes[k] = nodes'[k] → nodes.take (k + 1) = nodes'.take (k + 1)) := fun h => take_eq_succ htk.out hlt hlt' h
      have hno1 : Hid (nodes[k] ≠ nodes'[k] → (⟨s, init, nodes⟩ : AU) ≠ ⟨s', init', nodes'⟩) := fun h1 h => by
        injection h with _ _ h
        subst h
        exact h1 rfl
      generalize nodes[k] = x at p0 p1 p2 p3 ht1 hx htk1 hno1
      generalize nodes'[k] = y at q0 q1 q2 q3 ht2 hy htk1 hno1
      obtain ⟨xn, xb, xi, xt⟩ := x
      obtain ⟨yn, yb, yi, yt⟩ := y
      simp only at p0 p1 p2 p3 ht1 q0 q1 q2 q3 ht2 hx hy
      have hl1 := World.block_lt_of_cell? wr _ p0
      have hl2 := World.block_lt_of_cell? wr _ q0
      simp only at hl1 hl2
      have IT := Lib.hid (fun w' (hb' : Below wr.heap.size wr w') => ints_any w' at1 at2 ct1 ct2 xt yt (ht1.below hb') (ht2.below hb') (by omega) (by omega))
      have hki : (k : Int) < (nodes.length : Int) := by omega
      subst hab hbb
      clear ht1 ht2
      have hbq := fun n => btrans hb (bdrewN (balloc (balloc (Below.refl wr.heap.size wr) (.cells #[.int .u64 xn, .int .u64 xb, .int .u64 xi, .slice at1 xt.length ct1] TAn)) (.cells #[.int .u64 yn, .int .u64 yb, .int .u64 yi, .slice at2 yt.length ct2] TAn)) n)
      have hbp := fun n => btrans hb (bdrewN (balloc (balloc (Below.refl wr.heap.size wr) (.cells #[.int .u64 yn, .int .u64 yb, .int .u64 yi, .slice at2 yt.length ct2] TAn)) (.cells #[.int .u64 xn, .int .u64 xb, .int .u64 xi, .slice at1 xt.length ct1] TAn)) n)
      replace hbq := Lib.hid hbq
      replace hbp := Lib.hid hbp
      by_cases e1 : xn = yn
      case neg =>
        have hxn : ((xn : Int) != (yn : Int)) = true := by simp; omega
        have hno := Lib.hid (hno1.out (fun h => e1 (by injection h)))
        clear IT
        go_wp2
        go_region
        all_goals (
          go_wp2
          go_ret
          first | exact SamV.no hno.out (hbq.out _) | exact SamV.no hno.out (hbp.out _))
      have hxn : ((xn : Int) != (yn : Int)) = false := by simp [e1]
      replace e1 := Lib.hid e1
      by_cases e2 : xb = yb
      case neg =>
        have hxb : ((xb : Int) != (yb : Int)) = true := by simp; omega
        have hno := Lib.hid (hno1.out (fun h => e2 (by injection h)))
        clear IT
        go_wp2
        go_region
        all_goals (
          go_wp2
          go_ret
          first | exact SamV.no hno.out (hbq.out _) | exact SamV.no hno.out (hbp.out _))
      have hxb : ((xb : Int) != (yb : Int)) = false := by simp [e2]
      replace e2 := Lib.hid e2
      by_cases e3 : xi = yi
      case neg =>
        have hxi : ((xi : Int) != (yi : Int)) = true := by simp; omega
        have hno := Lib.hid (hno1.out (fun h => e3 (by injection h)))
        clear IT
        go_wp2
        go_region
        all_goals (
          go_wp2
          go_ret
          first | exact SamV.no hno.out (hbq.out _) | exact SamV.no hno.out (hbp.out _))
      have hxi : ((xi : Int) != (yi : Int)) = false := by simp [e3]
      replace e3 := Lib.hid e3
      have e4 : Hid (xt = yt → nodes.take (k + 1) = nodes'.take (k + 1)) := fun h => htk1.out (by rw [e1.out, e2.out, e3.out, h])
      have e5 : Hid (xt ≠ yt → (⟨s, init, nodes⟩ : AU) ≠ ⟨s', init', nodes'⟩) := fun h => hno1.out (fun h' => h (by injection h'))
      clear htk1 hno1 e1 e2 e3
      go_wp2
      go_region
      all_goals (
        go_wp2_with fail
        refine (IT.out _ (balloc (balloc (Below.refl wr.heap.size wr) _) _).drew).mono ?_
        rintro e w3 ⟨rfl, m3, rfl⟩
        have hbn := hbq.out (1 + m3)
        have hbm := hbp.out (1 + m3)
        have tAn := tA.below (bdrewN (balloc (balloc (Below.refl wr.heap.size wr) (.cells #[.int .u64 xn, .int .u64 xb, .int .u64 xi, .slice at1 xt.length ct1] TAn)) (.cells #[.int .u64 yn, .int .u64 yb, .int .u64 yi, .slice at2 yt.length ct2] TAn)) (1 + m3))
        have tAm := tA.below (bdrewN (balloc (balloc (Below.refl wr.heap.size wr) (.cells #[.int .u64 yn, .int .u64 yb, .int .u64 yi, .slice at2 yt.length ct2] TAn)) (.cells #[.int .u64 xn, .int .u64 xb, .int .u64 xi, .slice at1 xt.length ct1] TAn)) (1 + m3))
        have tBn := tB.below (bdrewN (balloc (balloc (Below.refl wr.heap.size wr) (.cells #[.int .u64 xn, .int .u64 xb, .int .u64 xi, .slice at1 xt.length ct1] TAn)) (.cells #[.int .u64 yn, .int .u64 yb, .int .u64 yi, .slice at2 yt.length ct2] TAn)) (1 + m3))
        have tBm := tB.below (bdrewN (balloc (balloc (Below.refl wr.heap.size wr) (.cells #[.int .u64 yn, .int .u64 yb, .int .u64 yi, .slice at2 yt.length ct2] TAn)) (.cells #[.int .u64 xn, .int .u64 xb, .int .u64 xi, .slice at1 xt.length ct1] TAn)) (1 + m3))
        replace hbn := Lib.hid hbn
        replace hbm := Lib.hid hbm
        replace tAn := Lib.hid tAn
        replace tAm := Lib.hid tAm
        replace tBn := Lib.hid tBn
        replace tBm := Lib.hid tBm
        by_cases et : xt = yt
        · rw [decide_eq_true et]
          have ht := Lib.hid (e4.out et)
          clear et
          go_wp2
          go_roundw
          case rel => first | exact ⟨k + 1, by omega, by go_num, ht, tAn.out, tBn.out, hbn.out⟩ | exact ⟨k + 1, by omega, by go_num, ht, tAm.out, tBm.out, hbm.out⟩
          case measure => simp [intOf]; omega
        · rw [decide_eq_false et]
          have hno := Lib.hid (e5.out et)
          clear et
          go_wp2
          go_ret
          first | exact SamV.no hno.out hbn.out | exact SamV.no hno.out hbm.out)
    · obtain rfl : k = nodes.length := by omega
      have hyes : Hid ((⟨s, init, nodes⟩ : AU) = ⟨s', init', nodes'⟩) := by
        show _ = _
        rw [es.out, ei.out, take_all el htk.out]
      go_wp2
      go_ret
      exact SamV.yes hyes.out hb
end Go.Proofs.YtjacphcnanopjaaDoor
