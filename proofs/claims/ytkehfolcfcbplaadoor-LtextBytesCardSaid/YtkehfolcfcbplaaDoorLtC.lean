/- How the law's arguments are opened; the walk of 'LtextTexts'. Conditions: what the listed variables hold. -/
import Derived.Test.YtkehfolcfcbplaaDoorLtB
import Derived.Test.YtkehfolcfcbplaaDoorLtW10
import Derived.Test.YtkehfolcfcbplaaDoorStruct
namespace Go.Proofs.YtkehfolcfcbplaaDoor
open Go.RowKit Go.ChangeShapes Go.WideShapes Go.ChangeAt
set_option linter.unusedVariables false
set_option linter.unusedSimpArgs false

/-- how a node, and a name, reads -/
def rNd : Rd Nd := fun _ cs x => cs = [.int .i64 x.1, .int .i64 x.2]
def rNm : Rd (List UInt8) := fun _ cs x => cs = [.string ⟨x.toArray⟩]
theorem opens_Nd : Opens Tryd.prog TNd rNd := by
  intro H enc w fuel cs d ps hd hwt
  have hl := trod_struct_len Tryd.underlying39 hd
  have hc : Tryd.prog.cellsOf TNd = 2 := by kernel_rfl
  obtain ⟨c0, c1, rfl⟩ := list2 (hl.trans hc)
  obtain ⟨x0, h0⟩ := opens_field Tryd.underlying39 0 0 1 _ rfl rfl (by kernel_rfl) (opens_int Tryd.underlying3) hd hwt
  obtain ⟨x1, h1⟩ := opens_field Tryd.underlying39 1 1 1 _ rfl rfl (by kernel_rfl) (opens_int Tryd.underlying3) hd hwt
  simp only [List.drop_zero, List.drop_succ_cons, List.take_succ_cons, List.take_zero, rInt, List.cons.injEq, and_true] at h0 h1
  refine ⟨(x0, x1), ?_⟩
  show _ = [_, _]
  rw [h0.1, h1.1]
theorem opens_nds : Opens Tryd.prog 22 (rSl 2 16 rNd) := opens_slice Tryd.underlying22 (by kernel_rfl) (by kernel_rfl) (by decide) opens_Nd
theorem opens_Nm : Opens Tryd.prog 9 rNm := by
  intro H enc w fuel cs d ps hd hwt
  obtain ⟨s, h, _⟩ := opens_str Tryd.underlying9 H enc w fuel cs d ps hd hwt
  refine ⟨s.data.toList, ?_⟩
  show _ = [_]
  rw [h]
theorem opens_nms : Opens Tryd.prog 23 (rSl 1 16 rNm) := opens_slice Tryd.underlying23 (by kernel_rfl) (by kernel_rfl) (by decide) opens_Nm
theorem nds_at {W : World} {v : Value} {f : List Nd} (r : rSl 2 16 rNd W [v] f) : ∃ a c, v = .slice a f.length c ∧ NdAt W a f ∧ f.length ≤ 281474976710656 ∧ f.length ≤ c ∧ c ≤ maxLen := by
  obtain ⟨a, cap, hv, hb, hc1, hc2, hcells⟩ := r
  refine ⟨a, cap, by simpa using hv, fun h0 => ?_, by unfold reachBytes at hb; omega, hc1, hc2⟩
  obtain ⟨b, off, e, h⟩ := hcells h0
  refine ⟨b, off, e, fun i hi => ?_⟩
  obtain ⟨vs, _, hc, hR⟩ := h i hi
  have h1 := hc 0 (by decide)
  have h2 := hc 1 (by decide)
  rw [hR] at h1 h2
  exact ⟨h1, h2⟩
theorem nms_at {W : World} {v : Value} {N : List (List UInt8)} (r : rSl 1 16 rNm W [v] N) : ∃ a c, v = .slice a N.length c ∧ StrsAt W a N ∧ N.length ≤ 281474976710656 ∧ N.length ≤ c := by
  obtain ⟨a, cap, hv, hb, hc1, _, hcells⟩ := r
  refine ⟨a, cap, by simpa using hv, fun h0 => ?_, by unfold reachBytes at hb; omega, hc1⟩
  obtain ⟨b, off, e, h⟩ := hcells h0
  refine ⟨b, off, e, fun i hi => ?_⟩
  obtain ⟨vs, _, hc, hR⟩ := h i hi
  have h1 := hc 0 (by decide)
  rw [hR, Nat.mul_one] at h1
  exact h1
set_option maxRecDepth 8000 in
set_option maxHeartbeats 8000000 in
theorem ltextTexts_walk (W : World) (hd : Door W) (v0 : Value) (f : List Nd) (r0 : rSl 2 16 rNd W [v0] f) (v1 : Value) (N : List (List UInt8)) (r1 : rSl 1 16 rNm W [v1] N) : Calls Tryd.prog 3 #[v0, v1] W fun e w' => e = .returned (.bool true) ∧ Below W.heap.size W w' := by
  have AW := Lib.hid (fun v (hb : Below W.heap.size W v) => awake_true v (hd.below hb))
  obtain ⟨a, c, rfl, hf, hfl, _, _⟩ := nds_at r0
  obtain ⟨na, nc, rfl, hN, hNl, hNc⟩ := nms_at r1
  have HV := heavy_any W a f.length c na nc N hN hNl hfl
  cases hh : heavyP f.length N with
  | true =>
    rw [hh] at HV
    replace HV := Lib.hid HV
    generalize f.length = n at *
    generalize N.length = m at *
    clear hd r0 r1 hf hfl hN hNl hNc hh
    go_enter Tryd.func3, Tryd.ntmps3
    go_wp2_with fail
    refine HV.out.mono ?_
    rintro e w1 ⟨rfl, rfl⟩
    clear HV
    go_wp2_with fail
    refine (AW.out W (Below.refl _ _)).mono ?_
    rintro e w2 ⟨rfl, hb2⟩
    replace hb2 := Lib.hid hb2
    clear AW
    go_wp2
    go_ret
    exact ⟨rfl, hb2.out⟩
  | false =>
    rw [hh] at HV
    obtain ⟨n40, n60, n20⟩ := heavy_not hh
    have hNs : ∀ x ∈ N, x.length ≤ 281474976710656 := fun x hx => by have := n40 x hx; omega
    have TX := Lib.hid (fun v (hb : Below W.heap.size W v) => text_form v (hd.below hb) a c f (hf.below hb) (by omega) na nc N (hN.below hb) (by omega) hNc hNs)
    have RX := Lib.hid (fun v (hb : Below W.heap.size W v) => rtext_form v a c f (hf.below hb) (by omega) na nc N (hN.below hb) (by omega) hNc hNs)
    generalize (⟨(textP f N).1.toArray⟩ : ByteArray) = u at TX RX
    generalize (textP f N).2 = x at TX RX
    replace HV := Lib.hid HV
    generalize f.length = n at *
    generalize N.length = m at *
    clear hd r0 r1 hf hfl hN hNl hNc hh n40 n60 n20 hNs
    go_enter Tryd.func3, Tryd.ntmps3
    go_wp2_with fail
    refine HV.out.mono ?_
    rintro e w1 ⟨rfl, rfl⟩
    clear HV
    go_wp2_with fail
    refine (TX.out W (Below.refl _ _)).mono ?_
    rintro e w2 ⟨rfl, hb2⟩
    have z2 := Lib.hid hb2
    clear hb2 TX
    go_wp2_with fail
    refine (RX.out w2 z2.out).mono ?_
    rintro e w3 ⟨rfl, hb3⟩
    have z3 := Lib.hid (btrans z2.out hb3)
    clear hb3 RX
    go_wp2_with fail
    refine (AW.out w3 z3.out).mono ?_
    rintro e w4 ⟨rfl, hb4⟩
    have z4 := Lib.hid (btrans z3.out hb4)
    clear hb4 AW
    go_wp2
    go_ret
    exact ⟨rfl, z4.out⟩
end Go.Proofs.YtkehfolcfcbplaaDoor
