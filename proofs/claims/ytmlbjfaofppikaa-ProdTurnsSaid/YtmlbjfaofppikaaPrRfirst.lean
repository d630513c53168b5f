/- The document's First. Conditions: a product that the document's New tells. -/
import Derived.Test.YtmlbjfaofppikaaPrRin
namespace Go.Proofs.Ytmlbjfaofppikaa
open Go.RowKit

/-- pairs of the document in a row of the call's own -/
def GivesR (w : World) (l : List PP) (e : Ending) (w' : World) : Prop := ∃ a c, e = .returned (.slice a l.length c) ∧ OwnQ w' w.heap.size TRq a c l ∧ Below w.heap.size w w'
theorem firstTo_len (G : GR) (A : AU) (ns : List Int) : (firstTo G A ns).length ≤ ns.length * A.init.length := by
  induction ns using snoc_rec with
  | h0 => simp [firstTo]
  | h1 l n ih =>
    rw [firstTo_snoc]
    have := pairsP_len A (labP G n) n 0 A.init (firstTo G A l)
    rw [List.length_append, List.length_singleton, Nat.succ_mul]
    omega
theorem own_low {w w' W : World} {S : Nat → Prop} (h : Keeps w w' S) (hb : Below W.heap.size W w) (hs : ∀ j, S j → W.heap.size ≤ j) : Below W.heap.size W w' := h.below hb hs
set_option maxHeartbeats 8000000 in
theorem rfirst_any (w : World) (X : RX) (G : GR) (sets : List (List Bool)) (A : AU) (h : RpA w X G sets A) :
    Calls Try.prog 20 #[rpv X G sets A] w (GivesR w (firstP G A)) := by
  have r1 := RowAt.new (w := w) (T := TRP) #[.slice X.ai G.init.length X.ci, .slice X.ae G.edges.length X.ce, .slice X.al G.labels.length X.cl, .slice X.as_ sets.length X.cs, .int .i64 A.sets, .slice X.bi A.init.length X.di, .slice X.bn A.nodes.length X.dn] rfl
  have hb1 := balloc (Below.refl w.heap.size w) (.cells #[.slice X.ai G.init.length X.ci, .slice X.ae G.edges.length X.ce, .slice X.al G.labels.length X.cl, .slice X.as_ sets.length X.cs, .int .i64 A.sets, .slice X.bi A.init.length X.di, .slice X.bn A.nodes.length X.dn] TRP)
  obtain ⟨w1, hw1⟩ : ∃ w1, w.alloc (.cells #[.slice X.ai G.init.length X.ci, .slice X.ae G.edges.length X.ce, .slice X.al G.labels.length X.cl, .slice X.as_ sets.length X.cs, .int .i64 A.sets, .slice X.bi A.init.length X.di, .slice X.bn A.nodes.length X.dn] TRP) = w1 := ⟨_, rfl⟩
  rw [hw1] at r1 hb1
  have H := Lib.hid (fun wr (hb : Below w1.heap.size w1 wr) => h.below (btrans hb1 hb))
  have CC : Hid (∀ w3, Below w1.heap.size w1 w3 → w3.cell? ⟨w.heap.size, 0, none⟩ = some (.slice X.ai G.init.length X.ci) ∧ w3.cell? ⟨w.heap.size, 1, none⟩ = some (.slice X.ae G.edges.length X.ce) ∧ w3.cell? ⟨w.heap.size, 2, none⟩ = some (.slice X.al G.labels.length X.cl) ∧ w3.cell? ⟨w.heap.size, 3, none⟩ = some (.slice X.as_ sets.length X.cs) ∧ w3.cell? ⟨w.heap.size, 4, none⟩ = some (.int .i64 A.sets) ∧ w3.cell? ⟨w.heap.size, 5, none⟩ = some (.slice X.bi A.init.length X.di) ∧ w3.cell? ⟨w.heap.size, 6, none⟩ = some (.slice X.bn A.nodes.length X.dn)) := fun w3 hb => by
    have a := r1.below hb
    exact ⟨a.cell 0, a.cell 1, a.cell 2, a.cell 3, a.cell 4, a.cell 5, a.cell 6⟩
  have LB := Lib.hid (fun wr (hb : Below w1.heap.size w1 wr) x => rlabel_any wr X G sets A (H.out wr hb) x)
  have RD := Lib.hid (fun wr (hb : Below w1.heap.size w1 wr) k hk n => rreads_any wr X A (H.out wr hb).au (H.out wr hb).aok k hk (labP G n) (labP_lt (H.out wr hb).ok n))
  have hin := Lib.hid (chk_good h.chk).2.2.2.1
  have hi12 := h.lt.i
  have ha8 := h.lt.ai
  have hlow := Nat.le_trans hb1.size (Nat.le_refl _)
  have hW1 := Lib.hid hb1
  clear r1 hb1 h
  go_enter Try.func20, Try.ntmps20
  go_wp2
  clear hw1
  go_loopw [3, 4] (fun lv iv wr => ∃ (i : Nat) (l : List PP) (a : Option Addr) (c : Nat), i ≤ G.init.length ∧ iv = .int .i64 i ∧ lv = .slice a l.length c ∧ Hid (l = firstTo G A (G.init.take i)) ∧ l.length ≤ i * 8 ∧ Hid (OwnQ wr w1.heap.size TRq a c l) ∧ Below w1.heap.size w1 wr) (fun _ iv _ => G.init.length - (intOf iv).toNat)
  case atStart => exact ⟨0, [], none, 0, Nat.zero_le _, rfl, rfl, rfl, Nat.zero_le _, OwnR.nil _ _ _ _, Below.refl _ _⟩
  case round =>
    obtain ⟨i, l, a, c, hi, rfl, rfl, hs, hll, hO, hbr⟩ := hrel
    obtain ⟨c0, c1, c2, c3, c4, c5, c6⟩ := CC.out wr hbr
    by_cases hlt : i < G.init.length
    · have hi2 : (i : Int) < (G.init.length : Int) := by omega
      have hst : Hid (firstTo G A (G.init.take (i + 1)) = pairsP A (labP G G.init[i]) G.init[i] 0 l A.init) := by
        show _ = _
        rw [List.take_add_one, List.getElem?_eq_getElem hlt, Option.toList_some, firstTo_snoc, ← hs.out]
      obtain ⟨n, hn⟩ : ∃ n, n = G.init[i] := ⟨_, rfl⟩
      rw [← hn] at hst
      have hNC : Hid (∀ w3, Below w1.heap.size w1 w3 → ∃ b off, X.ai = some ⟨b, off, none⟩ ∧ w3.cell? ⟨b, off + i, none⟩ = some (.int .i64 n)) := fun w3 hb => by
        obtain ⟨b, off, x, ha, cx, hx⟩ := (H.out w3 hb).g.init.at i hlt
        have : x = n := by rw [hx.out, List.getD_eq_getElem?_getD, List.getElem?_eq_getElem hlt, hn]; rfl
        rw [this] at cx
        exact ⟨b, off, ha, cx⟩
      replace hn := Lib.hid hn
      replace hbr := Lib.hid hbr
      clear hs
      go_wp2
      go_loopw [3, 5] (fun lv iv wr => ∃ (k : Nat) (l2 : List PP) (a : Option Addr) (c : Nat), k ≤ A.init.length ∧ iv = .int .i64 k ∧ lv = .slice a l2.length c ∧ Hid (l2 = pairsP A (labP G n) n 0 l (A.init.take k)) ∧ l2.length ≤ i * 8 + k ∧ Hid (OwnQ wr w1.heap.size TRq a c l2) ∧ Below w1.heap.size w1 wr) (fun _ iv _ => A.init.length - (intOf iv).toNat)
      case atStart => exact ⟨0, l, a, c, Nat.zero_le _, rfl, rfl, rfl, by omega, hO, hbr.out⟩
      case round =>
        clear hO hbr c0 c1 c2 c3 c4 c5 c6
        obtain ⟨k, l2, a, c, hk, rfl, rfl, hs, hll2, hO, hbr⟩ := hrel
        obtain ⟨c0, c1, c2, c3, c4, c5, c6⟩ := CC.out _ hbr
        by_cases hlt2 : k < A.init.length
        · obtain ⟨b, off, hai, cn⟩ := hNC.out _ hbr
          obtain ⟨b2, off2, q, hbi, cq, hq⟩ := (H.out _ hbr).au.init.at k hlt2
          have hq2 : q = A.init[k] := by rw [hq.out, List.getD_eq_getElem?_getD, List.getElem?_eq_getElem hlt2]; rfl
          have hqr := hin.out _ (List.getElem_mem hlt2)
          rw [← hq2] at hqr
          obtain ⟨s, rfl⟩ := Int.eq_ofNat_of_zero_le hqr.1
          have hsn : s < A.nodes.length := by omega
          have hk2 : (k : Int) < (A.init.length : Int) := by omega
          have hst2 := pairsP_snoc A (labP G n) n 0 l (A.init.take k) s
          rw [← hs.out, hq2, show A.init.take k ++ [A.init[k]] = A.init.take (k + 1) by rw [List.take_add_one, List.getElem?_eq_getElem hlt2, Option.toList_some], ← hq2] at hst2
          have RDs := Lib.hid (fun wr hb => RD.out wr hb s hsn n)
          generalize readsB (nodeP A s) (labP G n) = rd at RDs hst2
          replace hst2 := Lib.hid hst2
          replace hbr := Lib.hid hbr
          clear hq hq2 hqr RD hs
          obtain ⟨ai, ae, al, as_, bi, bn, ci, ce, cl, cs, di, dn⟩ := X
          dsimp only at hai hbi c0 c1 c2 c3 c4 c5 c6 CC
          subst hai
          subst hbi
          go_wp2
          go_quiet (fail)
          go_wp2
          obtain ⟨w2, hw2⟩ : ∃ w2, wr.drewN nq = w2 := ⟨_, rfl⟩
          have hb2 : Hid (Below w1.heap.size w1 w2) := by show Below _ _ _; rw [← hw2]; exact bdrewN hbr.out nq
          have hO2 : Hid (OwnQ w2 w1.heap.size TRq a c l2) := by show OwnQ _ _ _ _ _ _; rw [← hw2]; exact OwnR.keeps (S := fun _ => False) hO.out (Keeps.drewN _ _ _) (fun _ _ h => h)
          rw [hw2]
          clear hw2 c0 c1 c2 c3 c4 c5 c6 cn cq hO hbr
          obtain ⟨c0, c1, c2, c3, c4, c5, c6⟩ := CC.out w2 hb2.out
          go_region_held3 (fun w' => w'.cell? ⟨w.heap.size, 0, none⟩ = some (.slice (some ⟨b, off, none⟩) G.init.length ci) ∧ w'.cell? ⟨w.heap.size, 1, none⟩ = some (.slice ae G.edges.length ce) ∧ w'.cell? ⟨w.heap.size, 2, none⟩ = some (.slice al G.labels.length cl) ∧ w'.cell? ⟨w.heap.size, 3, none⟩ = some (.slice as_ sets.length cs) ∧ w'.cell? ⟨w.heap.size, 4, none⟩ = some (.int .i64 A.sets) ∧ w'.cell? ⟨w.heap.size, 5, none⟩ = some (.slice (some ⟨b2, off2, none⟩) A.init.length di) ∧ w'.cell? ⟨w.heap.size, 6, none⟩ = some (.slice bn A.nodes.length dn)) (first | exact CC.out _ B2 | exact CC.out _ B1 | exact CC.out _ hb2.out.drew | exact CC.out _ hb2.out) (first
            | (go_at_call 40; (with_reducible refine (LB.out _ hb2.out.drew n).mono ?_); rintro e w3 ⟨rfl, hb3⟩; have K1 : Below w2.heap.size w2 w3 := btrans (Below.refl _ _).drew hb3; have B1 : Below w1.heap.size w1 w3 := btrans hb2.out K1)
            | (go_at_call 39; (with_reducible refine (RDs.out _ B1).mono ?_); rintro e w4 ⟨rfl, hb4⟩; have K2 : Below w2.heap.size w2 w4 := btrans K1 hb4; have B2 : Below w1.heap.size w1 w4 := btrans B1 hb4))
          have hO4 : Hid (OwnQ w4 w1.heap.size TRq a c l2) := OwnR.keeps (S := fun _ => False) hO2.out (Keeps.of_below K2) (fun _ _ h => h)
          replace B2 := Lib.hid B2
          clear c0 c1 c2 c3 c4 c5 c6 hO2 hb2 B1 K1 K2 hb3 hb4
          cases rd with
          | false =>
            have hs3 : Hid (l2 = pairsP A (labP G n) n 0 l (A.init.take (k + 1))) := by show _ = _; rw [hst2.out, if_neg (by decide)]
            clear hst2
            go_wp2
            go_roundw
            case rel => exact ⟨k + 1, l2, a, c, by omega, by go_num, rfl, hs3, by omega, hO4, B2.out⟩
            case measure => simp [intOf]; omega
          | true =>
            have hs3 : Hid (addP l2 ⟨n, s, 0⟩ = pairsP A (labP G n) n 0 l (A.init.take (k + 1))) := by show _ = _; rw [hst2.out, if_pos rfl]
            have AD := Lib.hid (radd_any w4 w1.heap.size B2.out.size a c l2 hO4.out ⟨n, s, 0⟩ (by omega))
            have hal := addP_len l2 ⟨n, s, 0⟩
            generalize addP l2 ⟨n, s, 0⟩ = l3 at hs3 AD hal
            clear hst2
            go_wp2_with fail
            refine AD.out.mono ?_
            rintro e w5 ⟨a5, c5, rfl, hO5, hK5, _⟩
            have hb5 := hK5.below B2.out (fun j hj => (OwnR.lt hO4.out hj).1)
            replace hO5 := Lib.hid hO5
            clear hK5
            go_wp2
            go_roundw
            case rel => exact ⟨k + 1, l3, a5, c5, by omega, by go_num, rfl, hs3, by omega, hO5, hb5⟩
            case measure => simp [intOf]; omega
        · have hke : k = A.init.length := by omega
          subst hke
          rw [List.take_length] at hs
          replace hbr := Lib.hid hbr
          go_wp2
          go_roundw
          case rel => exact ⟨i + 1, l2, a, c, by omega, by go_num, rfl, hs.out.trans hst.out.symm, by omega, hO, hbr.out⟩
          case measure => simp [intOf]; omega
    · have hie : i = G.init.length := by omega
      subst hie
      rw [List.take_length] at hs
      replace hbr := Lib.hid hbr
      go_wp2
      go_ret
      show GivesR _ (firstTo G A G.init) _ _
      rw [← hs.out]
      exact ⟨a, c, rfl, OwnR.lower hO.out hlow, btrans hW1.out hbr.out⟩
end Go.Proofs.Ytmlbjfaofppikaa
