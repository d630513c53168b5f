/- The walk of 'RingPlays': true for every input. No conditions. -/
import Derived.Test.YtfbddadnnpjjjaaRingRef
import Derived.Deep.DeepCutAuto
import Derived.Deep.CutBlock
namespace Go.Proofs.Ytfbddadnnpjjjaa
open Go.RowKit Go.ChangeShapes Go.WideShapes Go.ChangeAt

def rAct : Rd (Int × Int) := fun _ cs p => cs = [.int .i64 p.1, .int .i64 p.2]
theorem opens_act : Opens Try.prog 28 rAct := by
  intro H enc w fuel cs d ps hd hwt
  have hl := trod_struct_len Try.underlying28 hd
  have hc : Try.prog.cellsOf 28 = 2 := by kernel_rfl
  obtain ⟨c0, c1, rfl⟩ := list2 (hl.trans hc)
  obtain ⟨x0, h0⟩ := opens_field Try.underlying28 0 0 1 _ rfl rfl (by kernel_rfl) (opens_int Try.underlying3) hd hwt
  obtain ⟨x1, h1⟩ := opens_field Try.underlying28 1 1 1 _ rfl rfl (by kernel_rfl) (opens_int Try.underlying3) hd hwt
  simp only [List.drop_zero, List.drop_succ_cons, List.take_succ_cons, List.take_zero, rInt, List.cons.injEq, and_true] at h0 h1
  exact ⟨(x0, x1), by rw [rAct, h0.1, h1.1]⟩
/-- the acts lie at an address -/
def ActsAt (w : World) (a : Option Addr) (l : List (Int × Int)) : Prop := ∀ i, i < l.length → ∃ b off, a = some ⟨b, off, none⟩ ∧ w.cell? ⟨b, off + i * 2, none⟩ = some (.int .i64 (l.getD i (0, 0)).1) ∧ w.cell? ⟨b, off + i * 2 + 1, none⟩ = some (.int .i64 (l.getD i (0, 0)).2)
theorem ActsAt.of {w : World} {v : Value} {l : List (Int × Int)} (h : rSl 2 16 rAct w [v] l) : ∃ a cap, v = .slice a l.length cap ∧ ActsAt w a l := by
  obtain ⟨a, cap, h1, _, _, _, h5⟩ := h
  refine ⟨a, cap, by simpa using h1, fun i hi => ?_⟩
  obtain ⟨b, off, ha, hc⟩ := h5 (by omega)
  obtain ⟨vs, _, hv, hr⟩ := hc i hi
  have h0 := hv 0 (by omega)
  have h1 := hv 1 (by omega)
  rw [hr] at h0 h1
  refine ⟨b, off, ha, ?_, ?_⟩
  · rw [Nat.add_zero] at h0
    rw [h0]
    simp [List.getD, hi]
  · rw [h1]
    simp [List.getD, hi]
/-- the queue and the document's row of the same numbers -/
structure PSt (w W : World) (m : Int) (a : Option Addr) (c : Nat) (xs : List Int) (ai : Option Addr) (ci : Nat) : Prop where
  q : QAt w W.heap.size W.heap.size m a c xs
  inn : NumsAt .i64 w ai xs
  cap : xs.length ≤ ci
  below : Below W.heap.size W w
  apart : 0 < xs.length → ∀ ad : Addr, ai = some ad → ad.block ≠ W.heap.size ∧ OI a xs.length c ≠ some ad.block
section
variable {w w1 w2 W : World} {m : Int} {a a' ai ai' : Option Addr} {c c' ci ci' : Nat} {xs ys : List Int}
theorem PSt.later (h : PSt w W m a c xs ai ci) (hb : Below w.heap.size w w1) : PSt w1 W m a c xs ai ci := ⟨h.q.below hb, h.inn.below hb, h.cap, btrans h.below hb, h.apart⟩
theorem PSt.new (h : PSt w W m a c xs ai ci) (hb : Below w.heap.size w w1) (ho : OwnN .i64 w1 w.heap.size 3 ai' ys.length ci' ys) (hc : ys.length ≤ ci')
    (hq : QAt w2 W.heap.size W.heap.size m a' c' ys) (ht : Turns w1 w2 W.heap.size (OI a xs.length c) (OI a' ys.length c')) : PSt w2 W m a' c' ys ai' ci' := by
  have hsz := hb.size
  have hql := h.q.box.lt
  have hol : ∀ j, OI a xs.length c = some j → j < w.heap.size := fun j hj => (h.q.own.lt2 hj).2
  have hblk : ∀ ad : Addr, 0 < ys.length → ai' = some ad → w.heap.size ≤ ad.block ∧ ad.block < w1.heap.size := fun ad h0 had => by
    obtain ⟨g, hg, h1, h2⟩ := ho.addr h0
    rw [had] at hg
    cases hg
    exact ⟨h1, h2⟩
  have h1 := (h.q.below hb)
  refine ⟨hq, ?_, hc, ht.below h1 (btrans h.below hb) (Nat.le_refl _), fun h0 ad had => ?_⟩
  · by_cases h0 : 0 < ys.length
    · refine (NumsAt.of_owns ho).keeps ht.1 (fun ad had hs => ?_)
      have hk := hblk ad h0 had
      rcases hs with hs | hs
      · omega
      · have := hol _ hs
        omega
    · exact fun hy => absurd hy h0
  · have hk := hblk ad h0 had
    refine ⟨by omega, fun e => ?_⟩
    rcases ht.2 _ e with h2 | h2
    · have := hol _ h2
      omega
    · omega
theorem PSt.part (h : PSt w W m a c xs ai ci) (hb : Quiet w w1) (hn : NumsAt .i64 w ai' ys) (hc : ys.length ≤ ci') (hx : 0 < ys.length → 0 < xs.length) (hblk : ∀ ad' : Addr, ai' = some ad' → ∃ ad, ai = some ad ∧ ad.block = ad'.block)
    (hq : QAt w2 W.heap.size W.heap.size m a' c' ys) (ht : Turns w1 w2 W.heap.size (OI a xs.length c) (OI a' ys.length c')) : PSt w2 W m a' c' ys ai' ci' := by
  have hbw := hb.below w.heap.size
  have hsz := hbw.size
  have h1 := (h.q.below hbw)
  have hn1 := hn.below hbw
  refine ⟨hq, ?_, hc, ht.below h1 (btrans h.below hbw) (Nat.le_refl _), fun h0 ad had => ?_⟩
  · by_cases h0 : 0 < ys.length
    · refine hn1.keeps ht.1 (fun ad' had' hs => ?_)
      obtain ⟨ad, had, e⟩ := hblk ad' had'
      have hk := h.apart (hx h0) ad had
      rw [e] at hk
      rcases hs with hs | hs
      · exact hk.1 hs
      · exact hk.2 hs
    · exact fun hy => absurd hy h0
  · obtain ⟨ad0, had0, e⟩ := hblk ad had
    have hk := h.apart (hx h0) ad0 had0
    rw [e] at hk
    refine ⟨hk.1, fun e' => ?_⟩
    rcases ht.2 _ e' with h2 | h2
    · exact hk.2 h2
    · obtain ⟨b, off, y, ea, cy, _⟩ := hn1.at 0 h0
      rw [had] at ea
      cases ea
      have h3 : b < w1.heap.size := by simpa using World.block_lt_of_cell? w1 _ cy
      have h4 : w1.heap.size ≤ b := h2
      omega
end
theorem cutA_block {ai : Option Addr} {c : Nat} : ∀ ad' : Addr, cutA ai c 1 1 = some ad' → ∃ ad, ai = some ad ∧ ad.block = ad'.block := by
  intro ad' h
  unfold cutA at h
  split at h
  · exact ⟨ad', h, rfl⟩
  · cases ai with
    | none => cases h
    | some ad =>
      cases h
      refine ⟨ad, rfl, ?_⟩
      unfold Addr.add
      split <;> rfl
/-- behind one act -/
def Acted (W : World) (m : Int) (k : Nat) (inn ok x y z : Value) (w : World) : Prop :=
  ∃ (a : Option Addr) (c : Nat) (xs : List Int) (ai : Option Addr) (ci : Nat) (b : Bool) (v : Int), inn = .slice ai xs.length ci ∧ ok = .bool b ∧ x = .int .i64 v ∧ y = .int .i64 v ∧ z = .bool b ∧ xs.length ≤ k + 1 ∧ PSt w W m a c xs ai ci
set_option maxRecDepth 10000 in
set_option maxHeartbeats 3000000 in
theorem ringPlays_walk (W : World) (m0 : Int) (hm : -9223372036854775808 ≤ m0 ∧ m0 ≤ 9223372036854775807) (v1 : Value) (ls : List (Int × Int)) (h1 : rSl 2 16 rAct W [v1] ls) :
    Calls Try.prog 3 #[.int .i64 m0, v1] W fun e w' => e = .returned (.bool true) ∧ Below W.heap.size W w' := by
  obtain ⟨a0, k0, rfl, i0⟩ := ActsAt.of h1
  clear h1
  obtain ⟨n, hn⟩ : ∃ n, n = ls.length := ⟨_, rfl⟩
  rw [← hn]
  by_cases g0 : 80 < n
  · have hg : decide ((80 : Int) < (n : Int)) = true := by simp; omega
    go_enter Try.func3, Try.ntmps3
    go_wp2_with (go_at_call 8; refine (works_true _).mono ?_; rintro e w' ⟨rfl, hb⟩)
    go_ret
    exact ⟨rfl, hb⟩
  have hg : decide ((80 : Int) < (n : Int)) = false := by simp; omega
  have hn2 : n ≤ 80 := by omega
  obtain ⟨M, hM⟩ : ∃ M, mostP m0 = M := ⟨_, rfl⟩
  have N := fun w => new_any w m0
  rw [hM] at N
  replace N := Lib.hid N
  replace hM := Lib.hid hM
  replace hn := Lib.hid hn
  clear g0 hm
  go_enter Try.func3, Try.ntmps3
  go_wp2_with fail
  refine (N.out _).mono ?_
  rintro e w1 ⟨rfl, hq1, hb1⟩
  have hP1 : PSt w1 W M none 0 [] none 0 := ⟨hq1, NumsAt.nil _ _ _, Nat.le_refl _, hb1, fun h => by simp at h⟩
  clear hq1 hb1 N
  go_wp2_with fail
  go_loopw [4, 6, 7] (fun r inn i wr => ∃ (k : Nat) (a : Option Addr) (c : Nat) (xs : List Int) (ai : Option Addr) (ci : Nat), k ≤ n ∧ r = .bool false ∧ i = .int .i64 k ∧ inn = .slice ai xs.length ci ∧ xs.length ≤ k ∧ PSt wr W M a c xs ai ci) (fun _ _ i _ => n - (intOf i).toNat)
  case atStart => exact ⟨0, none, 0, [], none, 0, Nat.zero_le _, rfl, rfl, rfl, Nat.le_refl _, hP1⟩
  case round =>
    clear hP1
    obtain ⟨k, a, c, xs, ai, ci, hk, rfl, rfl, rfl, hxk, hP⟩ := hrel
    by_cases hlt : k < n
    · obtain ⟨b, off, rfl, ck, cx⟩ := i0 k (by have := hn.out; omega)
      obtain ⟨kd, hkd⟩ : ∃ kd, kd = (ls.getD k (0, 0)).1 := ⟨_, rfl⟩
      obtain ⟨x, hx⟩ : ∃ x, x = (ls.getD k (0, 0)).2 := ⟨_, rfl⟩
      rw [← hkd] at ck
      rw [← hx] at cx
      have ckr : wr.cell? ⟨b, off + k * 2, none⟩ = some (.int .i64 kd) := bcell hP.below ck
      have cxr : wr.cell? ⟨b, off + k * 2 + 1, none⟩ = some (.int .i64 x) := bcell hP.below cx
      replace hkd := Lib.hid hkd
      replace hx := Lib.hid hx
      go_upto_block 2 with (fail)
      go_cut [6, 8, 9, 10, 11] (fun inn ok x y z wx => Acted W M k inn ok x y z wx)
      case first =>
        by_cases h0 : kd = 0
        · obtain rfl : kd = 0 := h0
          by_cases hf : M ≤ (xs.length : Int)
          · have R := Lib.hid (rput_no wr ai xs.length ci m0 x M hM.out hf)
            have P := Lib.hid (put_no wr _ _ _ _ _ _ hP.q hf x)
            go_wp2_with fail
            refine R.out.mono ?_
            rintro e w2 ⟨rfl, rfl⟩
            go_wp2_with fail
            refine P.out.mono ?_
            rintro e w2 ⟨rfl, hk2⟩
            have hA : Hid (Acted W M k (.slice ai xs.length ci) (.bool false) (.int .i64 0) (.int .i64 0) (.bool false) w2) := ⟨a, c, xs, ai, ci, false, 0, rfl, rfl, rfl, rfl, rfl, by omega, hP.later (hk2.below _)⟩
            clear R P hP
            go_wp2
            go_meet
            exact hA.out
          · have R := Lib.hid (rput_yes wr ai xs.length ci xs rfl hP.inn (by omega) m0 x M hM.out (by omega))
            go_wp2_with fail
            refine R.out.mono ?_
            rintro e w2 ⟨a2, c2, rfl, hc2, ho2, hb2⟩
            have P := Lib.hid (put_t w2 _ _ _ _ _ _ (hP.q.below hb2) (by omega) (by omega) x)
            have cx2 := bcell hb2 cxr
            go_wp2_with fail
            refine P.out.mono ?_
            rintro e w3 ⟨a3, c3, rfl, hq3, ht3⟩
            have hl : (xs ++ [x]).length = xs.length + 1 := by simp
            have hA : Hid (Acted W M k (.slice a2 (xs ++ [x]).length c2) (.bool true) (.int .i64 0) (.int .i64 0) (.bool true) w3) := ⟨a3, c3, xs ++ [x], a2, c2, true, 0, rfl, rfl, rfl, rfl, rfl, by omega, hP.new hb2 ho2 hc2 hq3 (by rw [hl]; exact ht3)⟩
            rw [hl] at hA
            clear R P hP ho2 hq3 ht3 hb2
            replace hl := Lib.hid hl
            go_wp2
            go_meet
            exact hA.out
        by_cases h1 : kd = 1
        · obtain rfl : kd = 1 := h1
          by_cases hf : M ≤ (xs.length : Int)
          · have R := Lib.hid (rpush_no wr ai xs.length ci m0 x M hM.out hf)
            have P := Lib.hid (push_no wr _ _ _ _ _ _ hP.q hf x)
            go_wp2_with fail
            refine R.out.mono ?_
            rintro e w2 ⟨rfl, rfl⟩
            go_wp2_with fail
            refine P.out.mono ?_
            rintro e w2 ⟨rfl, hk2⟩
            have hA : Hid (Acted W M k (.slice ai xs.length ci) (.bool false) (.int .i64 0) (.int .i64 0) (.bool false) w2) := ⟨a, c, xs, ai, ci, false, 0, rfl, rfl, rfl, rfl, rfl, by omega, hP.later (hk2.below _)⟩
            clear R P hP
            go_wp2
            go_meet
            exact hA.out
          · have R := Lib.hid (rpush_yes wr ai xs.length ci xs rfl hP.inn (by omega) m0 x M hM.out (by omega))
            go_wp2_with fail
            refine R.out.mono ?_
            rintro e w2 ⟨a2, c2, rfl, hc2, ho2, hb2⟩
            have P := Lib.hid (push_yes w2 _ _ _ _ _ _ (hP.q.below hb2) (by omega) (by omega) x)
            have cx2 := bcell hb2 cxr
            go_wp2_with fail
            refine P.out.mono ?_
            rintro e w3 ⟨a3, c3, rfl, hq3, ht3⟩
            have hl : (x :: xs).length = xs.length + 1 := by simp
            have hA : Hid (Acted W M k (.slice a2 (x :: xs).length c2) (.bool true) (.int .i64 0) (.int .i64 0) (.bool true) w3) := ⟨a3, c3, x :: xs, a2, c2, true, 0, rfl, rfl, rfl, rfl, rfl, by omega, hP.new hb2 ho2 hc2 hq3 (by rw [hl]; exact ht3)⟩
            rw [hl] at hA
            clear R P hP ho2 hq3 ht3 hb2
            replace hl := Lib.hid hl
            go_wp2
            go_meet
            exact hA.out
        by_cases h2 : kd = 2
        · obtain rfl : kd = 2 := h2
          cases xs with
          | nil =>
            have R := Lib.hid (rtake_no wr ai ci)
            have P := Lib.hid (take_no wr _ _ _ _ _ hP.q)
            go_wp2_with fail
            refine R.out.mono ?_
            rintro e w2 ⟨rfl, rfl⟩
            go_wp2_with fail
            refine P.out.mono ?_
            rintro e w2 ⟨rfl, rfl⟩
            have hA : Hid (Acted W M k (.slice ai 0 ci) (.bool false) (.int .i64 0) (.int .i64 0) (.bool false) wr) := ⟨a, c, [], ai, ci, false, 0, rfl, rfl, rfl, rfl, rfl, by simp, hP⟩
            clear R P hP
            go_wp2
            go_meet
            exact hA.out
          | cons y ys =>
            obtain ⟨nl, hnl⟩ : ∃ nl, nl = (y :: ys).length := ⟨_, rfl⟩
            have hnl2 : nl = ys.length + 1 := hnl
            have R := rtake_yes wr ai nl ci y ys hnl2 (by have := hP.cap; omega) hP.inn
            rw [show nl - 1 = ys.length by omega] at R
            replace R := Lib.hid R
            rw [← hnl]
            have hn1 : ((nl : Int) == 0) = false := by simp; omega
            have hxl8 := Lib.hid (show (y :: ys).length ≤ 70000 by omega)
            replace hnl := Lib.hid hnl
            replace hnl2 := Lib.hid hnl2
            replace hxk := Lib.hid hxk
            go_wp2_with fail
            refine R.out.mono ?_
            rintro e w2 ⟨rfl, hk2⟩
            have P := take_yes w2 _ _ _ _ _ _ (hP.q.below (hk2.below _)) (by simp) hxl8.out
            replace P := Lib.hid P
            go_wp2_with fail
            refine P.out.mono ?_
            rintro e w3 ⟨a3, c3, rfl, hq3, ht3⟩
            have hcn : NumsAt .i64 wr (cutA ai ci 1 1) ys := hP.inn.cut (l := 1) hP.cap
            have hA : Hid (Acted W M k (.slice (cutA ai ci 1 1) ys.length (ci - 1)) (.bool true) (.int .i64 y) (.int .i64 y) (.bool true) w3) := ⟨a3, c3, ys, _, _, true, y, rfl, rfl, rfl, rfl, rfl, by have := hxk.out; simp at this; omega, hP.part hk2 hcn (by have := hP.cap; simp at this; omega) (fun _ => by simp) cutA_block hq3 ht3⟩
            clear R P hP hcn hq3 ht3 hk2 hnl2 hn1
            go_wp2
            go_meet
            exact hA.out
        have k0 : (kd == 0) = false := by simpa using h0
        have k1 : (kd == 1) = false := by simpa using h1
        have k2 : (kd == 2) = false := by simpa using h2
        clear h0 h1 h2
        by_cases hx0 : xs.length = 0
        · obtain rfl : xs = [] := List.eq_nil_of_length_eq_zero hx0
          have R := Lib.hid (rlast_no wr ai ci)
          have P := Lib.hid (last_no wr _ _ _ _ _ hP.q)
          go_wp2_with fail
          refine R.out.mono ?_
          rintro e w2 ⟨rfl, rfl⟩
          go_wp2_with fail
          refine P.out.mono ?_
          rintro e w2 ⟨rfl, rfl⟩
          have hA : Hid (Acted W M k (.slice ai 0 ci) (.bool false) (.int .i64 0) (.int .i64 0) (.bool false) wr) := ⟨a, c, [], ai, ci, false, 0, rfl, rfl, rfl, rfl, rfl, by simp, hP⟩
          clear R P hP
          go_wp2
          go_meet
          exact hA.out
        · have R := rlast_yes wr ai xs.length ci xs rfl (by omega) hP.cap (by omega) hP.inn
          obtain ⟨y, hy⟩ : ∃ y, y = xs.getD (xs.length - 1) 0 := ⟨_, rfl⟩
          obtain ⟨nl, hnl⟩ : ∃ nl, nl = xs.length := ⟨_, rfl⟩
          have hel : (xs.eraseIdx (xs.length - 1)).length = xs.length - 1 := List.length_eraseIdx_of_lt (by omega)
          have het : xs.eraseIdx (xs.length - 1) = xs.take (xs.length - 1) := by
            rw [List.eraseIdx_eq_take_drop_succ, show xs.length - 1 + 1 = xs.length by omega, List.drop_length, List.append_nil]
          obtain ⟨pl, hpl⟩ : ∃ pl, pl = nl - 1 := ⟨_, rfl⟩
          rw [← hy, ← hnl, ← hpl] at R
          replace R := Lib.hid R
          rw [← hnl]
          have hn1 : ((nl : Int) == 0) = false := by simp; omega
          have hxl8 := Lib.hid (show 0 < xs.length ∧ xs.length ≤ 70000 by omega)
          replace hpl := Lib.hid hpl
          replace hnl := Lib.hid hnl
          replace hel := Lib.hid hel
          replace het := Lib.hid het
          replace hy := Lib.hid hy
          replace hxk := Lib.hid hxk
          clear hx0
          go_wp2_with fail
          refine R.out.mono ?_
          rintro e w2 ⟨rfl, hk2⟩
          have P := last_yes w2 _ _ _ _ _ _ (hP.q.below (hk2.below _)) hxl8.out.1 hxl8.out.2
          rw [← hy.out] at P
          replace P := Lib.hid P
          go_wp2_with fail
          refine P.out.mono ?_
          rintro e w3 ⟨a3, c3, rfl, hq3, ht3⟩
          have hA : Hid (Acted W M k (.slice ai pl ci) (.bool true) (.int .i64 y) (.int .i64 y) (.bool true) w3) := by
            have hcn : NumsAt .i64 wr ai (xs.eraseIdx (xs.length - 1)) := by rw [het.out]; exact hP.inn.upto _
            have hpe : pl = (xs.eraseIdx (xs.length - 1)).length := by rw [hel.out, hpl.out, hnl.out]
            rw [hpe]
            have hcp := hP.cap
            have h8 := hxl8.out
            have hk8 := hxk.out
            exact ⟨a3, c3, _, ai, ci, true, y, rfl, rfl, rfl, rfl, rfl, by rw [hel.out]; omega, hP.part hk2 hcn (by rw [hel.out]; omega) (fun _ => by omega) (fun ad h => ⟨ad, h, rfl⟩) hq3 (by rw [hel.out]; exact ht3)⟩
          clear R P hP hq3 ht3 hk2 hn1
          go_wp2
          go_meet
          exact hA.out
      case rest =>
        obtain ⟨a2, c2, ys, ai2, ci2, bb, v, rfl, rfl, rfl, rfl, rfl, hyl, hP2⟩ := hcut
        have L1 := Lib.hid (list_any wc _ _ _ _ _ _ hP2.q (by omega))
        clear hP ckr cxr
        go_wp2_with fail
        refine L1.out.mono ?_
        rintro e w2 ⟨a3, c3, rfl, ho3, hb3⟩
        have hP3 := hP2.later hb3
        have F3 := Lib.hid (len_any w2 _ _ _ _ _ _ hP3.q)
        have E3 := eq_ints w2 a3 ai2 ys.length c3 ys.length ci2 ys ys (NumsAt.of_owns ho3) hP3.inn rfl rfl (by omega) (by omega)
        rw [decide_eq_true rfl] at E3
        replace E3 := Lib.hid E3
        have hbb : (bb != bb) = false := by cases bb <;> rfl
        clear L1 hP2 hb3
        replace ho3 := Lib.hid ho3
        go_wp2_with fail
        refine F3.out.mono ?_
        rintro e w4 ⟨rfl, rfl⟩
        go_wp2_with fail
        refine E3.out.mono ?_
        rintro e w4 ⟨rfl, hk4⟩
        have hP4 := Lib.hid (hP3.later (hk4.below _))
        clear F3 E3 hP3 ho3 hk4
        go_wp2
        go_roundw
        case rel => exact ⟨k + 1, a2, c2, ys, ai2, ci2, by omega, rfl, by go_num, rfl, hyl, hP4.out⟩
        case measure => simp [intOf]; omega
    · obtain rfl : k = n := by omega
      have hb := hP.below
      clear hP
      go_wp2_with fail
      refine (works_true _).mono ?_
      rintro e w7 ⟨rfl, hb7⟩
      go_wp2
      go_ret
      exact ⟨rfl, btrans hb hb7⟩
end Go.Proofs.Ytfbddadnnpjjjaa
