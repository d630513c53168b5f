/- The walk of the document's Takes. Conditions: the bounds of an automaton that may be, and of a short word. -/
import Derived.Test.YtnllgigolfakpaaTakesSt
import Derived.Test.YtnllgigolfakpaaAutoChk3
namespace Go.Proofs.Ytnllgigolfakpaa
open Go.RowKit

def TakesW (A : AU) (w : WD) : Prop := 0 < w.loop.length ∧ TakesP A w
def GivesTk (W : World) (A : AU) (w : WD) (e : Ending) (w' : World) : Prop := ∃ b, e = .returned (.bool b) ∧ (b = true ↔ TakesW A w) ∧ Below W.heap.size W w'
set_option maxRecDepth 10000 in
theorem takes_no (W : World) (ai an : Option Addr) (ci cn : Nat) (A : AU) (h : AuAt W ai A.init.length an A.nodes.length A) (ok : AuOk A) (hc : chk A = 0) (as_ al : Option Addr) (cs cl : Nat) (w : WD) (okw : w.len ≤ 40) (h0 : w.loop.length = 0) :
    Calls Try.prog 17 #[.agg #[.int .i64 A.sets, .slice ai A.init.length ci, .slice an A.nodes.length cn], WV as_ w.stem.length cs al w.loop.length cl] W (GivesTk W A w) := by
  have hb0 : Below W.heap.size W ((W.alloc (.cells #[.int .i64 A.sets, .slice ai A.init.length ci, .slice an A.nodes.length cn] AUT)).alloc (.cells #[.slice as_ w.stem.length cs, .slice al w.loop.length cl] TWd)) := balloc (balloc (Below.refl _ _) _) _
  have CK := Lib.hid (rcheck_any _ ai an ci cn A (h.below hb0) ok)
  rw [hc] at CK
  have r2 : RowAt ((W.alloc (.cells #[.int .i64 A.sets, .slice ai A.init.length ci, .slice an A.nodes.length cn] AUT)).alloc (.cells #[.slice as_ w.stem.length cs, .slice al w.loop.length cl] TWd)) (W.heap.size + 1) TWd (WC as_ w.stem.length cs al w.loop.length cl) := RowAt.new #[.slice as_ w.stem.length cs, .slice al w.loop.length cl] (by simp)
  have hno : Hid (¬ TakesW A w) := fun hh => by have := hh.1; omega
  have WK := Lib.hid (fun w' => wchk_any w' as_ al w.stem.length cs w.loop.length cl okw)
  rw [h0] at WK r2 CK hb0 ⊢
  rw [if_pos rfl] at WK
  replace r2 := Lib.hid r2
  replace hb0 := Lib.hid hb0
  generalize w.stem.length = ns at WK r2 CK hb0 ⊢
  clear h ok hc okw h0
  go_enter Try.func17, Try.ntmps17
  go_wp2_with fail
  refine CK.out.mono ?_
  rintro e w1 ⟨rfl, hb1⟩
  have s2 := r2.out.below hb1
  have a0 : w1.cell? ⟨W.heap.size + 1, 0, none⟩ = some (.slice as_ ns cs) := s2.cell 0
  have a1 : w1.cell? ⟨W.heap.size + 1, 1, none⟩ = some (.slice al 0 cl) := s2.cell 1
  have hbw := btrans hb0.out hb1
  go_wp2_with fail
  refine (WK.out _).mono ?_
  rintro e w2 ⟨rfl, hb2⟩
  go_wp2
  go_ret
  exact ⟨false, rfl, ⟨(fun e => by cases e), fun hh => absurd hh hno.out⟩, btrans hbw hb2⟩
set_option maxRecDepth 10000 in
set_option maxHeartbeats 8000000 in
theorem takes_yes (W : World) (ai an : Option Addr) (ci cn : Nat) (A : AU) (h : AuAt W ai A.init.length an A.nodes.length A) (ok : AuOk A) (hc : chk A = 0) (hil : A.init.length ≤ 2000) (hto : ∀ x ∈ A.nodes, x.to.length ≤ 2000)
    (as_ al : Option Addr) (cs cl : Nat) (w : WD) (hw : WordAt W as_ al w) (okw : WordOk w) (h0 : 0 < w.loop.length) :
    Calls Try.prog 17 #[.agg #[.int .i64 A.sets, .slice ai A.init.length ci, .slice an A.nodes.length cn], WV as_ w.stem.length cs al w.loop.length cl] W (GivesTk W A w) := by
  obtain ⟨g1, g2, g3, g4, g5⟩ := chk_goodT hc
  have hg5 : ∀ x ∈ A.nodes, ∀ q ∈ x.to, 0 ≤ q ∧ q < (A.nodes.length : Int) := fun x hx => (g5 x hx).1
  obtain ⟨s, hs⟩ := Int.eq_ofNat_of_zero_le g2
  have hs16 : s ≤ 16 := by omega
  have hlen40 := okw.len
  have hlen0 := pos_len h0
  have hNle : A.nodes.length * w.len ≤ 1000000 := by
    have := Nat.mul_le_mul g1 hlen40
    omega
  have hTF := Lib.hid (takes_from g4 hg5 h0 hs)
  have hFL := Lib.hid (fromL_lt g4 h0)
  have hOK := Lib.hid (tk_ok hg5 h0 hNle (fun x hx => by have := hto x hx; omega))
  have hOF : Hid (∀ q ∈ ofT w.len (A.nodes.length * w.len) (A.nodes.length * w.len), q < A.nodes.length) := fun q hq => by
    obtain ⟨p, hp, rfl⟩ := List.mem_map.1 hq
    have hp : p < A.nodes.length * w.len := by simpa using hp
    rw [if_pos hp]
    exact (back_num h0 hp).1
  have AT := Lib.hid (fun w' (hb : Below W.heap.size W w') k (hk : k < w.len) => wat_any w' as_ al cs cl w (hw.below hb) hlen40 h0 k hk)
  have RD := Lib.hid (fun w' n (hn : n < A.nodes.length) vt k => reads_any w' (ndT A n) vt (w.at k) (by rw [ndT_get hn]; exact (ok.nodes _ (List.getElem_mem hn)).1) (by rw [ndT_get hn]; exact (ok.nodes _ (List.getElem_mem hn)).2.1) (at_lt okw h0 k))
  have ALL := Lib.hid (fun w' (hb : Below W.heap.size W w') gE ce (hE : GrAt w' (some ⟨gE, 0, none⟩) (tkG A w)) af cf (hF : NumsAt .i64 w' af (ints (ofT w.len (A.nodes.length * w.len) (A.nodes.length * w.len)))) => by
    have h1 := all_any w' ai an A.init.length ci cn A (h.nodes.below hb) s hs hs16 (some ⟨gE, 0, none⟩) ce (tkG A w) hE hOK.out af cf (ofT w.len (A.nodes.length * w.len) (A.nodes.length * w.len)) hF (by rw [tk_len]; simp [ofT]) hOF.out
    rw [tk_len, show (ofT w.len (A.nodes.length * w.len) (A.nodes.length * w.len)).length = A.nodes.length * w.len by simp [ofT]] at h1
    exact h1)
  have CEL := Lib.hid (fun n (hn : n < A.nodes.length) => h.nodes.cellsT hn)
  have TOB := Lib.hid (fun n (hn : n < A.nodes.length) t (ht : t ∈ (ndT A n).to) => by rw [ndT_get hn] at ht; exact hg5 _ (List.getElem_mem hn) t ht)
  have TOL : Hid (∀ n, n < A.nodes.length → (ndT A n).to.length ≤ 2000) := fun n hn => by rw [ndT_get hn]; exact hto _ (List.getElem_mem hn)
  have NX := Lib.hid (fun k (hk : k < w.len) => nx_lt h0 hk)
  have PN1 := Lib.hid (fun n k (hk : k < w.len) => pr_num (w := w) (n := n) hk)
  have NLT := Lib.hid (fun n k (hn : n < A.nodes.length) (hk : k < w.len) => num_lt (A := A) (w := w) hn hk)
  have hinit := h.init
  have HI := Lib.hid (fun w' (hb : Below W.heap.size W w') => hinit.below hb)
  have INB := Lib.hid g4
  have hlp : Hid (0 < w.loop.length) := h0
  obtain ⟨w0, hw0⟩ : ∃ w0, w0 = (W.alloc (.cells #[.int .i64 A.sets, .slice ai A.init.length ci, .slice an A.nodes.length cn] AUT)).alloc (.cells #[.slice as_ w.stem.length cs, .slice al w.loop.length cl] TWd) := ⟨_, rfl⟩
  have hb0 : Below W.heap.size W w0 := by rw [hw0]; exact balloc (balloc (Below.refl _ _) _) _
  have r1 : RowAt w0 W.heap.size AUT [.int .i64 A.sets, .slice ai A.init.length ci, .slice an A.nodes.length cn] := by rw [hw0]; exact (RowAt.new (w := W) #[.int .i64 A.sets, .slice ai A.init.length ci, .slice an A.nodes.length cn] rfl).alloc _
  have r2 : RowAt w0 (W.heap.size + 1) TWd (WC as_ w.stem.length cs al w.loop.length cl) := by rw [hw0]; exact RowAt.new #[.slice as_ w.stem.length cs, .slice al w.loop.length cl] (by simp)
  have CK := rcheck_any w0 ai an ci cn A (h.below hb0) ok
  have WK := Lib.hid (fun w' => wchk_any w' as_ al w.stem.length cs w.loop.length cl hlen40)
  have WL := Lib.hid (fun w' => wlen_any w' as_ al w.stem.length cs w.loop.length cl hlen40)
  rw [hc] at CK
  rw [if_neg (by omega)] at WK
  obtain ⟨ns, hns⟩ : ∃ ns, ns = w.stem.length := ⟨_, rfl⟩
  obtain ⟨nl, hnl⟩ : ∃ nl, nl = w.loop.length := ⟨_, rfl⟩
  obtain ⟨nn, hnn⟩ : ∃ nn, nn = A.nodes.length := ⟨_, rfl⟩
  obtain ⟨ni, hni⟩ : ∃ ni, ni = A.init.length := ⟨_, rfl⟩
  have hwl : w.len = ns + nl := by unfold WD.len; rw [hns, hnl]
  rw [← hns, ← hnl] at AT WK WL hw0 r2 ⊢
  rw [← hwl] at WL
  rw [← hnn] at INB g1 hNle hTF hFL hOF RD ALL CEL TOB TOL NLT hw0 r1 CK ⊢
  rw [← hni] at hw0 r1 CK ALL hil ⊢
  obtain ⟨lg, hlg⟩ : ∃ lg, lg = w.len := ⟨_, rfl⟩
  rw [← hlg] at hNle hTF hFL hOF AT ALL NX PN1 NLT hlen40 hlen0 hwl WL
  have hnsl : (ns : Int) ≤ 40 := by omega
  have hlg40 : (lg : Int) ≤ 40 := by omega
  have hnn256 : (nn : Int) ≤ 256 := by omega
  have hni2 : (ni : Int) ≤ 2000 := by omega
  obtain ⟨N, hN⟩ : ∃ N, N = nn * lg := ⟨_, rfl⟩
  rw [← hN] at hNle hTF hFL hOF ALL NLT
  have hmulN : (nn : Int) * (lg : Int) = (N : Int) := by rw [hN]; push_cast; rfl
  have hN2 : (N : Int) ≤ 1000000 := by omega
  have hby : Hid (24 * N ≤ 281474976710656) := by show _ ≤ _; omega
  have hby2 : Hid (8 * N ≤ 281474976710656) := by show _ ≤ _; omega
  have hN0 : 0 ≤ (N : Int) := by omega
  rw [hs] at r1 CK ALL hw0 ⊢
  have hsI : (s : Int) ≤ 16 := by omega
  replace hns := Lib.hid hns
  replace hnl := Lib.hid hnl
  replace hnn := Lib.hid hnn
  replace hni := Lib.hid hni
  replace hwl := Lib.hid hwl
  replace hlg := Lib.hid hlg
  replace hN := Lib.hid hN
  replace hb0 := Lib.hid hb0
  replace r1 := Lib.hid r1
  replace r2 := Lib.hid r2
  replace CK := Lib.hid CK
  clear h ok hc hil hto hw okw h0 g2 g3 g4 g5 hg5 hs hs16 g1 hlen40 hNle hinit
  go_enter Try.func17, Try.ntmps17
  go_wp2_with fail
  rw [← hw0]
  refine CK.out.mono ?_
  rintro e w1 ⟨rfl, hb1⟩
  have s1 := r1.out.below hb1
  have s2 := r2.out.below hb1
  have hbw1 := btrans hb0.out hb1
  have a0 : w1.cell? ⟨W.heap.size + 1, 0, none⟩ = some (.slice as_ ns cs) := s2.cell 0
  have a1 : w1.cell? ⟨W.heap.size + 1, 1, none⟩ = some (.slice al nl cl) := s2.cell 1
  clear CK hw0
  go_wp2_with fail
  refine (WK.out _).mono ?_
  rintro e w2 ⟨rfl, hb2⟩
  have s1 := s1.below hb2
  have s2 := s2.below hb2
  have hbw2 := btrans hbw1 hb2
  clear a0 a1 WK
  have a0 : w2.cell? ⟨W.heap.size + 1, 0, none⟩ = some (.slice as_ ns cs) := s2.cell 0
  have a1 : w2.cell? ⟨W.heap.size + 1, 1, none⟩ = some (.slice al nl cl) := s2.cell 1
  go_wp2_with fail
  refine (WL.out _).mono ?_
  rintro e w3 ⟨rfl, hb3⟩
  have s1 := Lib.hid (s1.below hb3)
  have s2 := Lib.hid (s2.below hb3)
  have hbw3 := Lib.hid (btrans hbw2 hb3)
  clear a0 a1 WL hbw1 hbw2 hb1 hb2 hb3 r1 r2 hb0
  have a2 : w3.cell? ⟨W.heap.size, 2, none⟩ = some (.slice an nn cn) := s1.out.cell 2
  go_wp2_with (at_make; refine wp_makeRow rfl _ _ _ TEs (.slice none 0 0) 24 rfl Try.underlying57 infoEs rfl N rfl rfl hby.out (by decide) ?_)
  intro w4 hM hb4 hlt4
  obtain ⟨g, hg⟩ : ∃ g, g = w3.heap.size := ⟨_, rfl⟩
  rw [← hg] at hM hlt4
  have hg1 : W.heap.size + 1 < g := by have := s2.out.lt; omega
  have s1 := Lib.hid (s1.out.below hb4)
  have s2 := Lib.hid (s2.out.below hb4)
  have hbw4 := Lib.hid (btrans hbw3.out hb4)
  have tb0 := Lib.hid (TabAt.start (B := g) hM (Nat.le_refl _))
  rw [← hg]
  clear hM hb4 hg a2 hbw3
  go_wp2_with (at_make; refine wp_makeRow rfl _ _ _ 3 (.int .i64 0) 8 rfl Try.underlying22 infoI rfl N rfl rfl hby2.out (by decide) ?_)
  intro w5 hM hb5 hlt5
  obtain ⟨go, hgo⟩ : ∃ go, go = w4.heap.size := ⟨_, rfl⟩
  rw [← hgo] at hM hlt5
  have hgg : g < go := by omega
  have st0 : Hid (TkSt W w5 [.int .i64 (s : Int), .slice ai ni ci, .slice an nn cn] (WC as_ ns cs al nl cl) g go (fillT (tkRow A w) N 0 []) (fun _ => (none, 0)) (ofT lg N 0)) := by
    refine ⟨btrans hbw4.out hb5, s1.out.below hb5, s2.out.below hb5, by rw [fillT_start]; exact tb0.out.below hb5, ?_, fun j hj e => ?_, hg1, hgg⟩
    · rw [ofT_start]
      have e : (ints (List.replicate N 0)).map (Value.int .i64) = List.replicate N (.int .i64 0) := by simp [ints]
      rw [e]
      exact hM
    · have := (tb0.out.blk (by rw [← fillT_start (F := tkRow A w)]; exact hj)).2
      omega
  rw [← hgo]
  clear hM hb5 hgo tb0 hbw4 s1 s2 hlt4 hlt5 hby hby2
  go_wp2
  go_loopw [8] (fun nv wr => ∃ (n : Nat) (S : Nat → Option Addr × Nat), n ≤ nn ∧ nv = .int .i64 n ∧ Hid (TkSt W wr [.int .i64 (s : Int), .slice ai ni ci, .slice an nn cn] (WC as_ ns cs al nl cl) g go (fillT (tkRow A w) N (n * lg) []) S (ofT lg N (n * lg)))) (fun nv _ => nn - (intOf nv).toNat)
  case atStart => exact ⟨0, _, Nat.zero_le _, rfl, by rw [Nat.zero_mul]; exact st0⟩
  case round =>
    obtain ⟨n, S, hn, rfl, st⟩ := hrel
    clear st0
    have a2 : wr.cell? ⟨W.heap.size, 2, none⟩ = some (.slice an nn cn) := st.out.ba.cell 2
    by_cases hnn2 : n < nn
    · have hn2 : (n : Int) < (nn : Int) := by omega
      obtain ⟨m1, hm1⟩ : ∃ m1, m1 = n * lg := ⟨_, rfl⟩
      have hmul : (n : Int) * (lg : Int) = (m1 : Int) := by rw [hm1]; push_cast; rfl
      obtain ⟨bn, on, at_, ct, hab, q0, q1, q2, q3, hto⟩ := CEL.out n hnn2
      have tob := Lib.hid (TOB.out n hnn2)
      have tol := TOL.out n hnn2
      have RDn := Lib.hid (fun w' vt k => RD.out w' n hnn2 vt k)
      obtain ⟨x, hx⟩ : ∃ x, x = ndT A n := ⟨_, rfl⟩
      rw [← hx] at q0 q1 q2 q3 hto tob tol RDn
      replace hx := Lib.hid hx
      obtain ⟨xn, xb, xi, xt⟩ := x
      simp only at q0 q1 q2 q3 hto tob tol RDn
      have hxtl : (xt.length : Int) ≤ 2000 := by omega
      rw [← hm1] at st
      have hm1N : m1 + lg ≤ N := by
        have h1 : (n + 1) * lg ≤ nn * lg := Nat.mul_le_mul_right _ hnn2
        rw [Nat.add_mul, ← hN.out] at h1
        omega
      have PNn := Lib.hid (fun k hk => PN1.out n k hk)
      replace hm1 := Lib.hid hm1
      replace hto := Lib.hid hto
      replace tol := Lib.hid tol
      subst hab
      go_wp2
      clear a2
      go_loopw [9] (fun kv wr => ∃ (k : Nat) (S : Nat → Option Addr × Nat), k ≤ lg ∧ kv = .int .i64 k ∧ Hid (TkSt W wr [.int .i64 (s : Int), .slice ai ni ci, .slice (some ⟨bn, on, none⟩) nn cn] (WC as_ ns cs al nl cl) g go (fillT (tkRow A w) N (m1 + k) []) S (ofT lg N (m1 + k)))) (fun kv _ => lg - (intOf kv).toNat)
      case atStart => exact ⟨0, S, Nat.zero_le _, rfl, st⟩
      case round =>
        obtain ⟨k, S, hk, rfl, st⟩ := hrel
        by_cases hkl : k < lg
        · have hkl2 : (k : Int) < (lg : Int) := by omega
          obtain ⟨P, hP⟩ : ∃ P, P = m1 + k := ⟨_, rfl⟩
          have hPN : P < N := by omega
          have hPN2 : (P : Int) < (N : Int) := by omega
          have hPi : (m1 : Int) + (k : Int) = (P : Int) := by rw [hP]; push_cast; rfl
          rw [← hP] at st
          obtain ⟨m, hm⟩ : ∃ m, m = w.nx k := ⟨_, rfl⟩
          have hml : m < lg := by rw [hm]; exact NX.out k hkl
          have b0 : wr.cell? ⟨W.heap.size + 1, 0, none⟩ = some (.slice as_ ns cs) := st.out.bw.cell 0
          have hmv : Hid (m = if k + 1 = lg then ns else k + 1) := by
            show _ = _
            rw [hm]
            unfold WD.nx
            rw [← hlg.out, ← hns.out]
          have hFP : Hid (tkRow A w P = if rdB ⟨xn, xb, xi, xt⟩ (w.at k) = true then edgeTo A w m xt else []) := by
            show _ = _
            unfold tkRow
            obtain ⟨c1, c2⟩ := PNn.out k hkl
            rw [← hlg.out, hP, hm1.out, c1, c2, ← hx.out, hm]
          have hPd : Hid (n = P / lg) := by show _ = _; rw [hP, hm1.out]; exact (PNn.out k hkl).1.symm
          replace hm := Lib.hid hm
          replace hP := Lib.hid hP
          have b0' := b0
          go_upto_if 53 with (fail)
          go_cut [10] (fun v wx => v = .int .i64 (m : Int) ∧ wx = wr)
          case first =>
            by_cases hlast : k + 1 = lg
            · have hkb : ((k : Int) + 1 == (lg : Int)) = true := by simp; omega
              have hm2 : Hid (m = ns) := by have := hmv.out; rwa [if_pos hlast] at this
              have hmm := hm2.out
              subst hmm
              clear hlast
              go_wp2_with fail
              go_meet
              exact ⟨rfl, rfl⟩
            · have hkb : ((k : Int) + 1 == (lg : Int)) = false := by simp; omega
              have hm2 : Hid (m = k + 1) := by have := hmv.out; rwa [if_neg hlast] at this
              have hmm := hm2.out
              subst hmm
              clear hlast
              go_wp2_with fail
              go_meet
              exact ⟨by go_num, rfl⟩
          case rest =>
            obtain ⟨rfl, rfl⟩ := hcut
            have hcur : wc.cell? ⟨go, P, none⟩ = some (.int .i64 0) := by
              rw [st.out.of_.cell]
              simp [ints, ofT, hPN]
            have hfz := st.out.of_.free P
            have st1 := st.out.setOf P n
            rw [ofT_set hPd.out] at st1
            replace st1 := Lib.hid st1
            clear st b0 b0'
            go_upto_region 16 with (fail)
            generalize wc.setCell ⟨go, P, none⟩ (.int .i64 (n : Int)) = wS at st1 ⊢
            clear hcur hfz
            have lowS := st1.out.low
            have a2 : wS.cell? ⟨W.heap.size, 2, none⟩ = some (.slice (some ⟨bn, on, none⟩) nn cn) := st1.out.ba.cell 2
            have b0 : wS.cell? ⟨W.heap.size + 1, 0, none⟩ = some (.slice as_ ns cs) := st1.out.bw.cell 0
            have b1 : wS.cell? ⟨W.heap.size + 1, 1, none⟩ = some (.slice al nl cl) := st1.out.bw.cell 1
            have Q0 := bcell lowS q0
            have Q1 := bcell lowS q1
            have Q2 := bcell lowS q2
            have Q3 := bcell lowS q3
            have SB : Hid (∀ w', Below wS.heap.size wS w' → w'.cell? ⟨W.heap.size, 2, none⟩ = some (.slice (some ⟨bn, on, none⟩) nn cn) ∧ w'.cell? ⟨W.heap.size + 1, 0, none⟩ = some (.slice as_ ns cs) ∧ w'.cell? ⟨W.heap.size + 1, 1, none⟩ = some (.slice al nl cl) ∧ w'.cell? ⟨bn, on + n * 4, none⟩ = some (.int .u64 (xn : Int)) ∧ w'.cell? ⟨bn, on + n * 4 + 1, none⟩ = some (.int .u64 (xb : Int)) ∧ w'.cell? ⟨bn, on + n * 4 + 2, none⟩ = some (.int .u64 (xi : Int)) ∧ w'.cell? ⟨bn, on + n * 4 + 3, none⟩ = some (.slice at_ xt.length ct)) := fun w' hb => ⟨bcell hb a2, bcell hb b0, bcell hb b1, bcell hb Q0, bcell hb Q1, bcell hb Q2, bcell hb Q3⟩
            have R1 := Lib.hid (fun w' vt => RDn.out w' vt k)
            have A1 := Lib.hid (fun w' (hb : Below wS.heap.size wS w') => AT.out w' (btrans lowS hb) k hkl)
            generalize w.at k = uk at R1 A1 hFP
            generalize rdB ⟨xn, xb, xi, xt⟩ uk = br at R1 hFP
            replace lowS := Lib.hid lowS
            go_region_held3 (fun w' => w'.cell? ⟨W.heap.size, 2, none⟩ = some (.slice (some ⟨bn, on, none⟩) nn cn) ∧ w'.cell? ⟨W.heap.size + 1, 0, none⟩ = some (.slice as_ ns cs) ∧ w'.cell? ⟨W.heap.size + 1, 1, none⟩ = some (.slice al nl cl) ∧ w'.cell? ⟨bn, on + n * 4, none⟩ = some (.int .u64 (xn : Int)) ∧ w'.cell? ⟨bn, on + n * 4 + 1, none⟩ = some (.int .u64 (xb : Int)) ∧ w'.cell? ⟨bn, on + n * 4 + 2, none⟩ = some (.int .u64 (xi : Int)) ∧ w'.cell? ⟨bn, on + n * 4 + 3, none⟩ = some (.slice at_ xt.length ct)) (first | exact SB.out _ B2 | exact SB.out _ B1 | exact SB.out _ (Below.refl _ _) | exact SB.out _ (Below.refl _ _).drew) (first
              | (go_at_call 29; (with_reducible refine (R1.out _ _).mono ?_); rintro e w7 ⟨rfl, hb7⟩; have B2 : Below wS.heap.size wS w7 := btrans B1 hb7)
              | (go_at_call 30; (with_reducible refine (A1.out _ (Below.refl _ _).drew).mono ?_); rintro e w6 ⟨rfl, hb6⟩; have B1 : Below wS.heap.size wS w6 := ⟨hb6.os, hb6.tape, hb6.output, hb6.size, hb6.block⟩))
            have st2 := Lib.hid (st1.out.below B2)
            clear a2 b0 b1 Q0 Q1 Q2 Q3 SB R1 A1 B1 B2 hb6 hb7 st1
            cases br with
            | false =>
              have e : fillT (tkRow A w) N P [] = fillT (tkRow A w) N (P + 1) [] := fillT_next (by rw [hFP.out]; rfl)
              rw [e, show P + 1 = m1 + (k + 1) by rw [hP.out, Nat.add_assoc]] at st2
              clear e hFP
              go_wp2
              go_roundw
              case rel => exact ⟨k + 1, S, by omega, by go_num, st2⟩
              case measure => simp [intOf]; omega
            | true =>
              have hFP2 : Hid (tkRow A w P = edgeTo A w m xt) := by have := hFP.out; rwa [if_pos rfl] at this
              clear hFP
              simp only [Bool.not_true]
              go_wp2
              go_loopw [11] (fun iv wr => ∃ (i : Nat) (S : Nat → Option Addr × Nat), i ≤ xt.length ∧ iv = .int .i64 i ∧ Hid (TkSt W wr [.int .i64 (s : Int), .slice ai ni ci, .slice (some ⟨bn, on, none⟩) nn cn] (WC as_ ns cs al nl cl) g go (fillT (tkRow A w) N P (edgeTo A w m (xt.take i))) S (ofT lg N (P + 1)))) (fun iv _ => xt.length - (intOf iv).toNat)
              case atStart => exact ⟨0, S, Nat.zero_le _, rfl, st2⟩
              case round =>
                obtain ⟨i, S, hi, rfl, st⟩ := hrel
                clear st2
                have low := st.out.low
                have a2 : wr.cell? ⟨W.heap.size, 2, none⟩ = some (.slice (some ⟨bn, on, none⟩) nn cn) := st.out.ba.cell 2
                have Q3 := bcell low q3
                by_cases hil : i < xt.length
                · have hil2 : (i : Int) < (xt.length : Int) := by omega
                  obtain ⟨bt, ot, v, hat, cv, hv⟩ := (hto.out.below low).at i hil
                  have hv2 : v = xt[i] := by rw [hv.out, List.getD_eq_getElem?_getD, List.getElem?_eq_getElem hil]; rfl
                  obtain ⟨t1, t2⟩ := tob.out v (by rw [hv2]; exact List.getElem_mem hil)
                  have hsn := edgeTo_snoc (A := A) (w := w) (m := m) hil
                  rw [← hv2] at hsn
                  clear hv2 hv
                  obtain ⟨t, rfl⟩ := Int.eq_ofNat_of_zero_le t1
                  simp only [Int.toNat_natCast] at hsn
                  rw [← hlg.out] at hsn
                  have htn : t < nn := by omega
                  obtain ⟨b2, o2, at2, ct2, hab2, p0, p1, p2, p3, _⟩ := CEL.out t htn
                  cases hab2
                  have Y0 := bcell low p0
                  have Y1 := bcell low p1
                  have Y2 := bcell low p2
                  have Y3 := bcell low p3
                  have R1 := Lib.hid (fun w' vt => RD.out w' t htn vt m)
                  have A1 := Lib.hid (fun w' (hb : Below wr.heap.size wr w') => AT.out w' (btrans low hb) m hml)
                  obtain ⟨Q, hQ⟩ : ∃ Q, Q = t * lg + m := ⟨_, rfl⟩
                  obtain ⟨mt, hmt⟩ : ∃ mt, mt = t * lg := ⟨_, rfl⟩
                  have hQN : Q < N := by rw [hQ]; exact NLT.out t m htn hml
                  have hmulT : Hid ((t : Int) * (lg : Int) = (mt : Int)) := by show _ = _; rw [hmt]; push_cast; rfl
                  have hmQ : Hid ((mt : Int) + (m : Int) = (Q : Int)) := by show _ = _; rw [hQ, hmt]; push_cast; rfl
                  have hmtN : (mt : Int) ≤ 1000000 := by omega
                  have hQI : (Q : Int) ≤ 1000000 := by omega
                  have hmI : (m : Int) ≤ 40 := by omega
                  rw [← hQ] at hsn
                  obtain ⟨y, hy⟩ : ∃ y, y = ndT A t := ⟨_, rfl⟩
                  rw [← hy] at Y0 Y1 Y2 Y3 R1 hsn
                  obtain ⟨yn, yb, yi, yt⟩ := y
                  simp only at Y0 Y1 Y2 Y3 R1
                  generalize w.at m = um at R1 A1 hsn
                  generalize hbr : rdB ⟨yn, yb, yi, yt⟩ um = br at R1 hsn
                  replace hsn := Lib.hid hsn
                  replace hy := Lib.hid hy
                  replace hQ := Lib.hid hQ
                  replace hmt := Lib.hid hmt
                  replace hbr := Lib.hid hbr
                  replace hQN := Lib.hid hQN
                  subst hat
                  clear p0 p1 p2 p3
                  have b0 : wr.cell? ⟨W.heap.size + 1, 0, none⟩ = some (.slice as_ ns cs) := st.out.bw.cell 0
                  have b1 : wr.cell? ⟨W.heap.size + 1, 1, none⟩ = some (.slice al nl cl) := st.out.bw.cell 1
                  have SB : Hid (∀ w', Below wr.heap.size wr w' → w'.cell? ⟨W.heap.size, 2, none⟩ = some (.slice (some ⟨bn, on, none⟩) nn cn) ∧ w'.cell? ⟨W.heap.size + 1, 0, none⟩ = some (.slice as_ ns cs) ∧ w'.cell? ⟨W.heap.size + 1, 1, none⟩ = some (.slice al nl cl) ∧ w'.cell? ⟨bn, on + t * 4, none⟩ = some (.int .u64 (yn : Int)) ∧ w'.cell? ⟨bn, on + t * 4 + 1, none⟩ = some (.int .u64 (yb : Int)) ∧ w'.cell? ⟨bn, on + t * 4 + 2, none⟩ = some (.int .u64 (yi : Int)) ∧ w'.cell? ⟨bn, on + t * 4 + 3, none⟩ = some (.slice at2 yt.length ct2)) := fun w' hb => ⟨bcell hb a2, bcell hb b0, bcell hb b1, bcell hb Y0, bcell hb Y1, bcell hb Y2, bcell hb Y3⟩
                  replace low := Lib.hid low
                  replace hmul := Lib.hid hmul
                  replace hPi := Lib.hid hPi
                  go_wp2
                  clear Q3 cv
                  generalize hst : fillT (tkRow A w) N P (edgeTo A w m (xt.take i)) = Lst at st
                  replace hst := Lib.hid hst
                  go_region_held3 (fun w' => w'.cell? ⟨W.heap.size, 2, none⟩ = some (.slice (some ⟨bn, on, none⟩) nn cn) ∧ w'.cell? ⟨W.heap.size + 1, 0, none⟩ = some (.slice as_ ns cs) ∧ w'.cell? ⟨W.heap.size + 1, 1, none⟩ = some (.slice al nl cl) ∧ w'.cell? ⟨bn, on + t * 4, none⟩ = some (.int .u64 (yn : Int)) ∧ w'.cell? ⟨bn, on + t * 4 + 1, none⟩ = some (.int .u64 (yb : Int)) ∧ w'.cell? ⟨bn, on + t * 4 + 2, none⟩ = some (.int .u64 (yi : Int)) ∧ w'.cell? ⟨bn, on + t * 4 + 3, none⟩ = some (.slice at2 yt.length ct2)) (first | exact SB.out _ B2 | exact SB.out _ B1 | exact SB.out _ (Below.refl _ _) | exact SB.out _ (Below.refl _ _).drew) (first
                    | (go_at_call 29; (with_reducible refine (R1.out _ _).mono ?_); rintro e w7 ⟨rfl, hb7⟩; have B2 : Below wr.heap.size wr w7 := btrans B1 hb7)
                    | (go_at_call 30; (with_reducible refine (A1.out _ (Below.refl _ _).drew).mono ?_); rintro e w6 ⟨rfl, hb6⟩; have B1 : Below wr.heap.size wr w6 := ⟨hb6.os, hb6.tape, hb6.output, hb6.size, hb6.block⟩))
                  have st3 := st.out.below B2
                  rw [← hst.out] at st3
                  clear a2 b0 b1 Y0 Y1 Y2 Y3 SB R1 A1 B1 B2 hb6 hb7 low
                  cases br with
                  | false =>
                    have e : edgeTo A w m (xt.take (i + 1)) = edgeTo A w m (xt.take i) := by rw [hsn.out, if_neg (by simp), List.append_nil]
                    have st4 : Hid (TkSt W w7 [.int .i64 (s : Int), .slice ai ni ci, .slice (some ⟨bn, on, none⟩) nn cn] (WC as_ ns cs al nl cl) g go (fillT (tkRow A w) N P (edgeTo A w m (xt.take (i + 1)))) S (ofT lg N (P + 1))) := by rw [e]; exact st3
                    clear e st3 st
                    go_wp2
                    go_roundw
                    case rel => exact ⟨i + 1, S, by omega, by go_num, st4⟩
                    case measure => simp [intOf]; omega
                  | true =>
                    have e : edgeTo A w m (xt.take (i + 1)) = edgeTo A w m (xt.take i) ++ [Q] := by rw [hsn.out, if_pos rfl]
                    have hPL : P < (fillT (tkRow A w) N P (edgeTo A w m (xt.take i))).length := by rw [fillT_len]; exact hPN
                    have hrow := fillT_row (F := tkRow A w) (cur := edgeTo A w m (xt.take i)) hPN
                    have happ := fun wA (hA : Below w7.heap.size w7 wA) (a' : Option Addr) (c' : Nat) w5 => st3.app (wA := wA) (w3 := w5) hA hPL (u := Q) (a' := a') (c' := c')
                    have ct := st3.tab.cell hPL
                    have ft := st3.tab.free P
                    have ow := st3.tab.own P hPL
                    have hgl := st3.tab.lt
                    have hnoe := st3.tab.ne P hPL
                    rw [hrow] at happ ct ow hnoe
                    rw [← e, fillT_put] at happ
                    have hrl : (edgeTo A w m (xt.take i)).length ≤ 2000 := Nat.le_trans (edgeTo_len _ _ _ _) (Nat.le_trans (List.length_take_le _ _) (Nat.le_trans hi tol))
                    obtain ⟨rw_, hrw⟩ : ∃ rw_, rw_ = edgeTo A w m (xt.take i) := ⟨_, rfl⟩
                    rw [← hrw] at happ ct ow hrl hnoe
                    obtain ⟨sa, hsa⟩ : ∃ sa, sa = (S P).1 := ⟨_, rfl⟩
                    obtain ⟨sc, hsc⟩ : ∃ sc, sc = (S P).2 := ⟨_, rfl⟩
                    rw [← hsa, ← hsc] at ct ow happ hnoe
                    have n5 : Hid (rw_.length + 1 ≤ maxLen) := by show _ ≤ _; unfold maxLen; omega
                    have y5 : Hid ((rw_.length + 1) * 16 ≤ 140737488355328) := by show _ ≤ _; omega
                    have OW := Lib.hid (ow.alloc (.cells #[.int .i64 (Q : Int), .int .i64 0] TE))
                    have NC := Lib.hid (new_cells w7 #[.int .i64 (Q : Int), .int .i64 0] TE rfl)
                    have OC : Hid (∀ u ∈ [Value.int .i64 (Q : Int), .int .i64 0], u.oneCell' = true) := fun u hu => by simp at hu; rcases hu with rfl | rfl <;> rfl
                    have x5 : Hid (g ≤ (w7.alloc (.cells #[.int .i64 (Q : Int), .int .i64 0] TE)).heap.size) := by show _ ≤ _; simp; omega
                    have hA3 := Lib.hid (balloc (Below.refl w7.heap.size w7) (.cells #[.int .i64 (Q : Int), .int .i64 0] TE))
                    have rg := Lib.hid (st3.tab.row.below hA3.out)
                    have ct2 := bcell hA3.out ct
                    replace happ := Lib.hid happ
                    replace hrl := Lib.hid hrl
                    replace hrow := Lib.hid hrow
                    replace hsa := Lib.hid hsa
                    replace hsc := Lib.hid hsc
                    replace hrw := Lib.hid hrw
                    replace e := Lib.hid e
                    replace ow := Lib.hid ow
                    replace st3 := Lib.hid st3
                    replace hnoe := Lib.hid hnoe
                    have hmul := hmul.out
                    have hPi := hPi.out
                    have hmulT := hmulT.out
                    have hmQ := hmQ.out
                    have hm1I : (m1 : Int) ≤ 1000000 := by omega
                    go_wp2_with (at_builtin; refine wp_appR rfl _ _ 60 TE (.agg #[.int .i64 0, .int .i64 0]) 2 16 rfl Try.underlying60 infoEd rfl (by decide) g sa rw_.length sc (ecells rw_) rfl OW.out w7.heap.size 1 [.int .i64 (Q : Int), .int .i64 0] rfl rfl NC.out OC.out n5.out y5.out x5.out ?_)
                    intro a5 c5 w8 ho8 hg8 hat8
                    have st4 := Lib.hid (happ.out _ hA3.out a5 c5 w8 ho8 hg8 (by
                      rcases hat8 with h1 | h1
                      · exact .inl h1
                      · exact .inr ⟨w7.heap.size + 1, Nat.le_succ _, h1⟩))
                    have rg8 : RowAt w8 g TEs _ := rg.out.keep (hg8.block g (Nat.lt_of_lt_of_le st3.out.tab.lt hA3.out.size) (fun e => hnoe.out e.symm))
                    have c8 : w8.cell? ⟨g, P, none⟩ = some (.slice sa rw_.length sc) := by
                      rw [rg8.cell, ← rg.out.cell]
                      exact ct2
                    have f8 := rg8.free P
                    replace rg8 := Lib.hid rg8
                    clear ct ct2 ft OW NC OC n5 y5 x5 happ ow st3 st ho8 hg8 hat8 hsn hrow e hgl
                    go_wp2
                    go_roundw
                    case rel => exact ⟨i + 1, _, by omega, by go_num, st4⟩
                    case measure => simp [intOf]; omega
                · obtain rfl : i = xt.length := by omega
                  have e : fillT (tkRow A w) N P (edgeTo A w m (xt.take xt.length)) = fillT (tkRow A w) N (P + 1) [] := fillT_next (by rw [List.take_length]; exact hFP2.out.symm)
                  rw [e, show P + 1 = m1 + (k + 1) by rw [hP.out, Nat.add_assoc]] at st
                  clear e low
                  go_wp2
                  go_roundw
                  case rel => exact ⟨k + 1, S, by omega, by go_num, st⟩
                  case measure => simp [intOf]; omega
        · obtain rfl : k = lg := by omega
          have e : m1 + k = (n + 1) * k := by rw [hm1.out, Nat.add_mul, Nat.one_mul]
          rw [e] at st
          clear hkl
          go_wp2
          go_roundw
          case rel => exact ⟨n + 1, S, by omega, by go_num, st⟩
          case measure => simp [intOf]; omega
    · obtain rfl : n = nn := by omega
      rw [← hN.out] at st
      clear hnn2
      have st2 := st.out
      have hgr : Hid (GrAt wr (some ⟨g, 0, none⟩) (tkG A w)) := by
        have h1 := st2.tab.gr
        rw [fillT_done] at h1
        have e : (List.range N).map (tkRow A w) = tkG A w := by
          have e2 : N = A.nodes.length * w.len := by rw [hN.out, hlg.out, hnn.out]
          rw [e2]
          rfl
        rw [e] at h1
        exact h1
      have hof : Hid (NumsAt .i64 wr (some ⟨go, 0, none⟩) (ints (ofT lg N N))) := by
        intro _
        refine ⟨go, 0, rfl, fun j hj => ?_⟩
        rw [Nat.zero_add, st2.of_.cell, List.getElem?_map, List.getElem?_eq_getElem hj, List.getD_eq_getElem?_getD, List.getElem?_eq_getElem hj]
        rfl
      have low := Lib.hid st2.low
      have ba := Lib.hid st2.ba
      have bw := Lib.hid st2.bw
      clear st st2 TOB TOL NX PN1 NLT
      obtain ⟨wg, hwg⟩ : ∃ wg, wg = wr.alloc (.cells #[.slice none 0 0, .slice (some ⟨g, 0, none⟩) N N, .slice none 0 0] TGr) := ⟨_, rfl⟩
      have bg : Below wr.heap.size wr wg := by rw [hwg]; exact balloc (Below.refl _ _) _
      obtain ⟨Bg, hBg⟩ : ∃ Bg, Bg = wr.heap.size := ⟨_, rfl⟩
      have rG : RowAt wg Bg TGr (GC none 0 0 (some ⟨g, 0, none⟩) N N none 0 0) := by rw [hwg, hBg]; exact RowAt.new (w := wr) #[.slice none 0 0, .slice (some ⟨g, 0, none⟩) N N, .slice none 0 0] rfl
      replace hgr := Lib.hid (hgr.out.below bg)
      replace hof := Lib.hid (hof.out.below bg)
      replace low := Lib.hid (btrans low.out bg)
      replace ba := Lib.hid (ba.out.below bg)
      replace bw := Lib.hid (bw.out.below bg)
      replace rG := Lib.hid rG
      clear bg
      go_wp2
      rw [← hwg, ← hBg]
      clear hwg hBg
      go_loopw [14, 15] (fun lv iv wr => ∃ (i : Nat) (a : Option Addr) (c m : Nat), i ≤ ni ∧ iv = .int .i64 i ∧ lv = .slice a m c ∧ Hid (m = (fromL A w (A.init.take i)).length) ∧ Hid (OwnN .i64 wr wg.heap.size 3 a m c (ints (fromL A w (A.init.take i)))) ∧ Hid (Below wg.heap.size wg wr)) (fun _ iv _ => ni - (intOf iv).toNat)
      case atStart => exact ⟨0, none, 0, 0, Nat.zero_le _, rfl, rfl, rfl, OwnN.nil _ _ _ _, Below.refl _ _⟩
      case round =>
        obtain ⟨i, a, c, m, hi, rfl, rfl, hm, ow, lo⟩ := hrel
        have lowr := btrans low.out lo.out
        have a1 : wr.cell? ⟨W.heap.size, 1, none⟩ = some (.slice ai ni ci) := (ba.out.below lo.out).cell 1
        by_cases hil : i < ni
        · have hil2 : (i : Int) < (ni : Int) := by omega
          have hiA : i < A.init.length := by rw [← hni.out]; exact hil
          obtain ⟨bt, ot, v, hat, cv, hv⟩ := (HI.out wr lowr).at i hiA
          have hv2 : v = A.init[i] := by rw [hv.out, List.getD_eq_getElem?_getD, List.getElem?_eq_getElem hiA]; rfl
          obtain ⟨t1, t2⟩ := INB.out v (by rw [hv2]; exact List.getElem_mem hiA)
          have hsn := fromL_snoc (A := A) (w := w) hiA
          rw [← hv2] at hsn
          clear hv2 hv
          obtain ⟨t, rfl⟩ := Int.eq_ofNat_of_zero_le t1
          simp only [Int.toNat_natCast] at hsn
          rw [← hlg.out] at hsn
          have htn : t < n := by omega
          obtain ⟨b2, o2, at2, ct2, hab2, p0, p1, p2, p3, _⟩ := CEL.out t htn
          have Y0 := bcell lowr p0
          have Y1 := bcell lowr p1
          have Y2 := bcell lowr p2
          have Y3 := bcell lowr p3
          have R1 := Lib.hid (fun w' vt => RD.out w' t htn vt 0)
          have A1 : Hid (∀ w' (_ : Below wr.heap.size wr w'), Calls Try.prog 30 #[WV as_ ns cs al nl cl, .int .i64 0] w' fun e w'' => e = .returned (.int .u64 (w.at 0 : Int)) ∧ Below w'.heap.size w' w'') := fun w' hb => AT.out w' (btrans lowr hb) 0 hlen0
          obtain ⟨mt, hmt⟩ : ∃ mt, mt = t * lg := ⟨_, rfl⟩
          have hmtN : mt ≤ N := by rw [hmt, hN.out]; exact Nat.mul_le_mul_right _ (Nat.le_of_lt htn)
          have hmulT : Hid ((t : Int) * (lg : Int) = (mt : Int)) := by show _ = _; rw [hmt]; push_cast; rfl
          have hmtI : (mt : Int) ≤ 1000000 := by omega
          rw [← hmt] at hsn
          obtain ⟨y, hy⟩ : ∃ y, y = ndT A t := ⟨_, rfl⟩
          rw [← hy] at Y0 Y1 Y2 Y3 R1 hsn
          obtain ⟨yn, yb, yi, yt⟩ := y
          simp only at Y0 Y1 Y2 Y3 R1
          generalize w.at 0 = um at R1 A1 hsn
          generalize hbr : rdB ⟨yn, yb, yi, yt⟩ um = br at R1 hsn
          replace hsn := Lib.hid hsn
          replace hy := Lib.hid hy
          replace hmt := Lib.hid hmt
          replace hbr := Lib.hid hbr
          have hml : Hid (m ≤ 2000) := by
            show _ ≤ _
            have h1 := fromL_len A w (A.init.take i)
            have h2 := List.length_take_le i A.init
            have h3 := hm.out
            omega
          subst hat
          subst hab2
          clear p0 p1 p2 p3
          have a2 : wr.cell? ⟨W.heap.size, 2, none⟩ = some (.slice (some ⟨b2, o2, none⟩) n cn) := (ba.out.below lo.out).cell 2
          have b0 : wr.cell? ⟨W.heap.size + 1, 0, none⟩ = some (.slice as_ ns cs) := (bw.out.below lo.out).cell 0
          have b1 : wr.cell? ⟨W.heap.size + 1, 1, none⟩ = some (.slice al nl cl) := (bw.out.below lo.out).cell 1
          have SB : Hid (∀ w', Below wr.heap.size wr w' → w'.cell? ⟨W.heap.size, 1, none⟩ = some (.slice (some ⟨bt, ot, none⟩) ni ci) ∧ w'.cell? ⟨bt, ot + i, none⟩ = some (.int .i64 (t : Int)) ∧ w'.cell? ⟨W.heap.size, 2, none⟩ = some (.slice (some ⟨b2, o2, none⟩) n cn) ∧ w'.cell? ⟨W.heap.size + 1, 0, none⟩ = some (.slice as_ ns cs) ∧ w'.cell? ⟨W.heap.size + 1, 1, none⟩ = some (.slice al nl cl) ∧ w'.cell? ⟨b2, o2 + t * 4, none⟩ = some (.int .u64 (yn : Int)) ∧ w'.cell? ⟨b2, o2 + t * 4 + 1, none⟩ = some (.int .u64 (yb : Int)) ∧ w'.cell? ⟨b2, o2 + t * 4 + 2, none⟩ = some (.int .u64 (yi : Int)) ∧ w'.cell? ⟨b2, o2 + t * 4 + 3, none⟩ = some (.slice at2 yt.length ct2)) := fun w' hb => ⟨bcell hb a1, bcell hb cv, bcell hb a2, bcell hb b0, bcell hb b1, bcell hb Y0, bcell hb Y1, bcell hb Y2, bcell hb Y3⟩
          replace lowr := Lib.hid lowr
          go_wp2
          go_region_held3 (fun w' => w'.cell? ⟨W.heap.size, 1, none⟩ = some (.slice (some ⟨bt, ot, none⟩) ni ci) ∧ w'.cell? ⟨bt, ot + i, none⟩ = some (.int .i64 (t : Int)) ∧ w'.cell? ⟨W.heap.size, 2, none⟩ = some (.slice (some ⟨b2, o2, none⟩) n cn) ∧ w'.cell? ⟨W.heap.size + 1, 0, none⟩ = some (.slice as_ ns cs) ∧ w'.cell? ⟨W.heap.size + 1, 1, none⟩ = some (.slice al nl cl) ∧ w'.cell? ⟨b2, o2 + t * 4, none⟩ = some (.int .u64 (yn : Int)) ∧ w'.cell? ⟨b2, o2 + t * 4 + 1, none⟩ = some (.int .u64 (yb : Int)) ∧ w'.cell? ⟨b2, o2 + t * 4 + 2, none⟩ = some (.int .u64 (yi : Int)) ∧ w'.cell? ⟨b2, o2 + t * 4 + 3, none⟩ = some (.slice at2 yt.length ct2)) (first | exact SB.out _ B2 | exact SB.out _ B1 | exact SB.out _ (Below.refl _ _) | exact SB.out _ (Below.refl _ _).drew) (first
            | (go_at_call 29; (with_reducible refine (R1.out _ _).mono ?_); rintro e w7 ⟨rfl, hb7⟩; have B2 : Below wr.heap.size wr w7 := btrans B1 hb7)
            | (go_at_call 30; (with_reducible refine (A1.out _ (Below.refl _ _).drew).mono ?_); rintro e w6 ⟨rfl, hb6⟩; have B1 : Below wr.heap.size wr w6 := ⟨hb6.os, hb6.tape, hb6.output, hb6.size, hb6.block⟩))
          have lo7 := Lib.hid (btrans lo.out B2)
          have ow7 := Lib.hid (OwnN.keeps (S := fun _ => False) ow.out (Keeps.of_below B2) (fun _ _ h => h))
          have cv7 := bcell B2 cv
          have a17 := bcell B2 a1
          clear a1 a2 b0 b1 Y0 Y1 Y2 Y3 SB R1 A1 B1 B2 hb6 hb7 lowr cv ow lo
          cases br with
          | false =>
            have e : fromL A w (A.init.take (i + 1)) = fromL A w (A.init.take i) := by rw [hsn.out, if_neg (by simp), List.append_nil]
            rw [← e] at hm ow7
            clear e hsn cv7 a17
            go_wp2
            go_roundw
            case rel => exact ⟨i + 1, a, c, m, by omega, by go_num, rfl, hm, ow7, lo7⟩
            case measure => simp [intOf]; omega
          | true =>
            have e : fromL A w (A.init.take (i + 1)) = fromL A w (A.init.take i) ++ [mt] := by rw [hsn.out, if_pos rfl]
            have hm5 : Hid (m + 1 = (fromL A w (A.init.take (i + 1))).length) := by show _ = _; rw [e, List.length_append, ← hm.out]; rfl
            have OW := Lib.hid (ow7.out.alloc (.cells #[.int .i64 (mt : Int)] 3))
            have NC : Hid ((w7.alloc (.cells #[.int .i64 (mt : Int)] 3)).cell? ⟨w7.heap.size, 0, none⟩ = some (.int .i64 (mt : Int))) := World.cell?_alloc_at _ _ _ _ rfl
            have y5 : Hid ((m + 1) * 8 ≤ 140737488355328) := by show _ ≤ _; have := hml.out; omega
            have x5 : Hid (wg.heap.size ≤ (w7.alloc (.cells #[.int .i64 (mt : Int)] 3)).heap.size) := by show _ ≤ _; have := lo7.out.size; simp; omega
            have hmulT := hmulT.out
            replace e := Lib.hid e
            go_wp2_with (at_builtin; refine wp_app1 rfl _ _ 22 3 .i64 8 rfl Try.underlying22 infoI wg.heap.size a m c _ rfl OW.out _ 1 (mt : Int) rfl NC.out y5.out (by decide) x5.out ?_)
            intro a5 c5 w8 ho8 hg8
            have lo8 := Lib.hid (bgrown (balloc lo7.out (.cells #[.int .i64 (mt : Int)] 3)) hg8 (fun j hj => ow7.out.block j hj))
            have ow8 : Hid (OwnN .i64 w8 wg.heap.size 3 a5 (m + 1) c5 (ints (fromL A w (A.init.take (i + 1))))) := by show OwnN _ _ _ _ _ _ _ _; rw [e.out]; simpa [ints] using ho8
            clear OW NC y5 x5 ho8 hg8 ow7 lo7 hsn hm hmulT cv7 a17
            go_wp2
            go_roundw
            case rel => exact ⟨i + 1, a5, c5, m + 1, by omega, by go_num, rfl, hm5, ow8, lo8⟩
            case measure => simp [intOf]; omega
        · obtain rfl : i = ni := by omega
          have hfl : Hid (A.init.take i = A.init) := by show _ = _; rw [hni.out, List.take_length]
          rw [hfl.out] at hm ow
          have a0 : wr.cell? ⟨W.heap.size, 0, none⟩ = some (.int .i64 (s : Int)) := (ba.out.below lo.out).cell 0
          have a2 : wr.cell? ⟨W.heap.size, 2, none⟩ = some (.slice an n cn) := (ba.out.below lo.out).cell 2
          have g0 : wr.cell? ⟨Bg, 0, none⟩ = some (.slice none 0 0) := (rG.out.below lo.out).cell 0
          have g1 : wr.cell? ⟨Bg, 1, none⟩ = some (.slice (some ⟨g, 0, none⟩) N N) := (rG.out.below lo.out).cell 1
          have g2 : wr.cell? ⟨Bg, 2, none⟩ = some (.slice none 0 0) := (rG.out.below lo.out).cell 2
          have AL := Lib.hid (ALL.out wr lowr g N (hgr.out.below lo.out) (some ⟨go, 0, none⟩) N (hof.out.below lo.out))
          obtain ⟨fl, hflE⟩ : ∃ fl, fl = fromL A w A.init := ⟨_, rfl⟩
          rw [← hflE] at hm ow hFL hTF
          have hfn := Lib.hid (NumsAt.of_owns ow.out)
          replace lowr := Lib.hid lowr
          replace hflE := Lib.hid hflE
          clear hil
          go_wp2_with fail
          refine AL.out.mono ?_
          rintro e w8 ⟨gR, xs, rfl, hR1, hR2, hR3, hb8, hR4⟩
          have low8 := Lib.hid (btrans lowr.out hb8)
          replace hfn := Lib.hid (hfn.out.below hb8)
          replace hR1 := Lib.hid hR1
          replace hR2 := Lib.hid hR2
          replace hR3 := Lib.hid hR3
          have hmI : Hid (m = fl.length) := hm
          clear a0 a2 g0 g1 g2 AL hb8 hR4 lowr ow lo a1 hm
          have hyes : Hid (∀ j (hj : j < fl.length), xs.getD fl[j] false = true → TakesW A w) := fun j hj hx => ⟨by have := hlen0; have := hwl.out; have := hnl.out; exact hlp.out, (hTF.out).2 ⟨fl[j], List.getElem_mem hj, (hR3.out _ (hFL.out _ (List.getElem_mem hj))).1 hx⟩⟩
          have hnoo : Hid ((∀ j (hj : j < fl.length), xs.getD fl[j] false = false) → ¬ TakesW A w) := fun hh ht => by
            obtain ⟨p, hp, hgd⟩ := hTF.out.1 ht.2
            obtain ⟨j, hj, rfl⟩ := List.mem_iff_getElem.1 hp
            have h1 := hh j hj
            rw [(hR3.out _ (hFL.out _ (List.getElem_mem hj))).2 hgd] at h1
            cases h1
          have hmle : (m : Int) ≤ 2000 := by
            have h1 := fromL_len A w A.init
            have h2 := hmI.out
            have h3 := hni.out
            rw [← hflE.out] at h1
            omega
          go_wp2
          go_loop [4, 17] (fun rv jv => ∃ j : Nat, j ≤ m ∧ jv = .int .i64 j ∧ rv = .bool false ∧ Hid (∀ j' (hj : j' < fl.length), j' < j → xs.getD fl[j'] false = false)) (fun _ jv => m - (intOf jv).toNat)
          case atStart => exact ⟨0, Nat.zero_le _, rfl, rfl, fun j' _ h => by omega⟩
          case round =>
            obtain ⟨j, hj, rfl, rfl, hall⟩ := hrel
            by_cases hjm : j < m
            · have hjm2 : (j : Int) < (m : Int) := by omega
              have hjf : j < fl.length := by rw [← hmI.out]; exact hjm
              obtain ⟨bf, of_, v, haf, cv, hv⟩ := hfn.out.at j (by rw [ints_len]; exact hjf)
              rw [ints_at hjf] at hv
              obtain ⟨p, hp⟩ : ∃ p, p = fl[j] := ⟨_, rfl⟩
              rw [← hp] at hv
              obtain rfl := hv.out
              have hpN : p < N := hFL.out p (by rw [hp]; exact List.getElem_mem hjf)
              have hpN2 : (p : Int) < (N : Int) := by omega
              obtain ⟨bb, hbb⟩ : ∃ bb, bb = xs.getD p false := ⟨_, rfl⟩
              have cx : w8.cell? ⟨gR, p, none⟩ = some (.bool bb) := by
                have h3 : p < xs.length := by rw [hR2.out]; exact hpN
                rw [hR1.out.cell, List.getElem?_map, List.getElem?_eq_getElem h3, hbb, List.getD_eq_getElem?_getD, List.getElem?_eq_getElem h3]
                rfl
              have hy := hyes.out j hjf
              rw [← hp, ← hbb] at hy
              have hst : Hid (bb = false → ∀ j' (hj : j' < fl.length), j' < j + 1 → xs.getD fl[j'] false = false) := fun hb j' hj' h => by
                rcases Nat.lt_succ_iff_lt_or_eq.1 h with h1 | rfl
                · exact hall.out j' hj' h1
                · rw [← hp, ← hbb]; exact hb
              replace hy := Lib.hid hy
              replace hp := Lib.hid hp
              replace hbb := Lib.hid hbb
              subst haf
              clear hv hall
              cases bb with
              | true =>
                have hT := Lib.hid (hy.out rfl)
                clear hst
                go_wp2
                go_ret
                exact ⟨true, rfl, ⟨fun _ => hT.out, fun _ => rfl⟩, low8.out⟩
              | false =>
                have hst2 := Lib.hid (hst.out rfl)
                clear hst hy
                go_wp2
                go_round
                case rel => exact ⟨j + 1, by omega, by go_num, rfl, hst2⟩
                case measure => simp [intOf]; omega
            · obtain rfl : j = m := by omega
              have hno := Lib.hid (hnoo.out (fun j' hj' => hall.out j' hj' (by rw [hmI.out]; exact hj')))
              clear hall
              go_wp2
              go_ret
              exact ⟨false, rfl, ⟨(fun e => by cases e), fun hh => absurd hh hno.out⟩, low8.out⟩
end Go.Proofs.Ytnllgigolfakpaa
