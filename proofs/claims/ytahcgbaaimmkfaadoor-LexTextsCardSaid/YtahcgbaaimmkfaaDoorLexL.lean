/- The document's Text and Name, walked. Conditions: not too many tokens, nor too long ones; short texts. -/
import Derived.Test.YtahcgbaaimmkfaaDoorLexK
import Derived.Test.YtahcgbaaimmkfaaDoorLexI
namespace Go.Proofs.YtahcgbaaimmkfaaDoor
open Go.RowKit
set_option linter.unusedVariables false

theorem joinT_len : ∀ (l : List (List UInt8)) (B : Nat), (∀ x ∈ l, x.length ≤ B) → (joinT l).length ≤ l.length * (B + 1)
  | [], B, h => Nat.zero_le _
  | [t], B, h => by
    have := h t (List.mem_cons_self ..)
    simp only [joinT, List.length_cons, List.length_nil]
    omega
  | t :: u :: r, B, h => by
    have h1 := h t (List.mem_cons_self ..)
    have h2 := joinT_len (u :: r) B (fun x hx => h x (List.mem_cons_of_mem _ hx))
    simp only [joinT, List.length_append, List.length_cons] at h2 ⊢
    rw [Nat.add_mul] at h2 ⊢
    rw [Nat.add_mul]
    omega
theorem joinT_snoc : ∀ (l : List (List UInt8)) (x : List UInt8), joinT (l ++ [x]) = if l = [] then x else joinT l ++ 32 :: x
  | [], x => rfl
  | [t], x => rfl
  | t :: u :: r, x => by
    have := joinT_snoc (u :: r) x
    rw [if_neg (by simp)] at this ⊢
    show t ++ 32 :: joinT ((u :: r) ++ [x]) = t ++ 32 :: joinT (u :: r) ++ 32 :: x
    rw [this, List.append_assoc]
    rfl
theorem str_app (l r : List UInt8) : (⟨l.toArray⟩ : ByteArray) ++ ⟨r.toArray⟩ = ⟨(l ++ r).toArray⟩ := by
  apply ByteArray.ext
  rw [ByteArray.data_append, List.append_toArray]
theorem str_sz (l : List UInt8) : (⟨l.toArray⟩ : ByteArray).size = l.length := by
  show l.toArray.size = _
  rw [List.size_toArray]
/-- the head of Text's loop -/
structure RtH (T : List Tz) (i : Nat) (o : ByteArray) : Prop where
  out : o = ⟨(joinT ((T.take i).map tellZ)).toArray⟩
  size : o.size ≤ i * 201
set_option maxRecDepth 8000 in
set_option maxHeartbeats 8000000 in
theorem rtextz_any (w : World) (a : Option Addr) (c : Nat) (T : List Tz) (ht : TzAt w a T) (hT : T.length ≤ 100) (hn : ∀ t ∈ T, -9223372036854775808 ≤ t.n ∧ t.n ≤ 9223372036854775807) (hx : ∀ t ∈ T, t.text.length ≤ 100) :
    Calls Tryd.prog 16 #[.slice a T.length c] w fun e w' => e = .returned (.string ⟨(joinT (T.map tellZ)).toArray⟩) ∧ Below w.heap.size w w' := by
  obtain ⟨res, hres⟩ : ∃ res : ByteArray, res = ⟨(joinT (T.map tellZ)).toArray⟩ := ⟨_, rfl⟩
  rw [← hres]
  obtain ⟨nt, hnt⟩ : ∃ nt, nt = T.length := ⟨_, rfl⟩
  rw [← hnt]
  have hntI : (nt : Int) ≤ 100 := by omega
  have hb0 : Hid (Below w.heap.size w w) := Below.refl _ _
  have H0 : Hid (RtH T 0 ⟨#[]⟩) := ⟨rfl, Nat.zero_le _⟩
  have FIN : Hid (∀ o, RtH T nt o → o = res) := fun o h => by
    rw [h.out, hres, hnt, List.take_length]
  have ONE : Hid (∀ i (hi : i < T.length) o, RtH T i o → ∃ p : ByteArray, p = ⟨(tellZ T[i]).toArray⟩ ∧ p.size ≤ 200 ∧ (i = 0 → RtH T (i + 1) (o ++ p)) ∧ (0 < i → RtH T (i + 1) (o ++ ⟨#[32]⟩ ++ p))) := fun i hi o h => by
    have hmem : T[i] ∈ T := List.getElem_mem hi
    obtain ⟨g1, g2⟩ := hn _ hmem
    have g3 := hx _ hmem
    have g4 : (tellZ T[i]).length ≤ 200 := by
      unfold tellZ
      split
      · have := itoa_len (T[i]).n g1 g2
        rw [str_sz] at this
        omega
      · omega
    have hs : (⟨(tellZ T[i]).toArray⟩ : ByteArray).size ≤ 200 := by rw [str_sz]; exact g4
    have htk : (T.take (i + 1)).map tellZ = (T.take i).map tellZ ++ [tellZ T[i]] := by
      rw [List.take_succ_eq_append_getElem hi, List.map_append]; rfl
    refine ⟨_, rfl, hs, fun h0 => ?_, fun h0 => ?_⟩
    · subst h0
      have ho : o = ⟨#[]⟩ := h.out
      refine ⟨?_, ?_⟩
      · rw [htk, ho, show (⟨#[]⟩ : ByteArray) = ⟨([] : List UInt8).toArray⟩ from rfl, str_app]
        rfl
      · rw [ByteArray.size_append, ho]
        have h1 : (⟨#[]⟩ : ByteArray).size = 0 := rfl
        omega
    · have hne : ¬ (T.take i).map tellZ = [] := fun e => by
        have := congrArg List.length e
        simp only [List.length_map, List.length_take, List.length_nil] at this
        omega
      refine ⟨?_, ?_⟩
      · rw [htk, joinT_snoc, if_neg hne, h.out]
        rw [show (⟨#[32]⟩ : ByteArray) = ⟨[(32 : UInt8)].toArray⟩ from rfl, str_app, str_app, List.append_assoc]
        rfl
      · rw [ByteArray.size_append, ByteArray.size_append]
        have := h.size
        have h1 : (⟨#[32]⟩ : ByteArray).size = 1 := rfl
        rw [h1, Nat.add_mul]
        omega
  have hnb : Hid (∀ t ∈ T, -9223372036854775808 ≤ t.n ∧ t.n ≤ 9223372036854775807) := hn
  have hT2 := Lib.hid hT
  replace ht := Lib.hid ht
  replace hnt := Lib.hid hnt
  clear hres hn hx hT
  go_enter Tryd.func16, Tryd.ntmps16
  go_wp2
  go_loopw [3, 4] (fun ov iv wr => ∃ (i : Nat) (o : ByteArray), ov = .string o ∧ iv = .int .i64 (i : Int) ∧ i ≤ nt ∧ Hid (RtH T i o) ∧ Hid (Below w.heap.size w wr)) (fun _ iv _ => nt - (intOf iv).toNat)
  case atStart => exact ⟨0, _, rfl, rfl, Nat.zero_le _, H0, hb0⟩
  case round =>
    obtain ⟨i, o, rfl, rfl, hi, rh, zr⟩ := hrel
    clear H0 hb0
    by_cases hl : i < nt
    · have hlI : (i : Int) < (nt : Int) := by omega
      have hlT : Hid (i < T.length) := by show _ < _; have := hnt.out; omega
      have htz := ht.out.below zr.out
      obtain ⟨b, off, ea, hbl, hcell⟩ := htz (by have := hlT.out; omega)
      have SG := hcell i hlT.out
      obtain ⟨p, hp, hps, hP0, hP1⟩ := ONE.out i hlT.out o rh.out
      have hos : (o.size : Int) ≤ 20100 := by have := rh.out.size; have := hT2.out; have h3 := hnt.out; have : i * 201 ≤ 100 * 201 := Nat.mul_le_mul_right _ (by omega); omega
      have hpsI : (p.size : Int) ≤ 200 := by omega
      have hB := hnb.out _ (List.getElem_mem hlT.out)
      generalize T[i]'hlT.out = x at SG hp hB
      obtain ⟨xk, xn, xa, xt⟩ := x
      dsimp only at SG hB
      have D := fun v => rdecimal_any v xn hB.1 hB.2
      have hcase : (xk = 2 → p = ⟨(Lib.itoa xn).toArray⟩) ∧ (xk ≠ 2 → p = ⟨xt.toArray⟩) := ⟨fun h => by rw [hp]; unfold tellZ; rw [if_pos h], fun h => by rw [hp]; unfold tellZ; rw [if_neg h]⟩
      have f0 : wr.cell? ⟨b, off + i * 4, none⟩ = some (.int .i64 xk) := SG 0 _ rfl
      have f1 : wr.cell? ⟨b, off + i * 4 + 1, none⟩ = some (.int .i64 xn) := SG 1 _ rfl
      have f3 : wr.cell? ⟨b, off + i * 4 + 3, none⟩ = some (.string ⟨xt.toArray⟩) := SG 3 _ rfl
      subst ea
      obtain ⟨q, hq⟩ : ∃ q : ByteArray, q = ⟨xt.toArray⟩ := ⟨_, rfl⟩
      rw [← hq] at f3 hcase
      obtain ⟨d, hd⟩ : ∃ d : ByteArray, d = ⟨(Lib.itoa xn).toArray⟩ := ⟨_, rfl⟩
      rw [← hd] at hcase
      replace D := Lib.hid D
      have D2 : Hid (Calls Tryd.prog 27 #[.int .i64 xn] wr fun e w' => e = .returned (.string d) ∧ Below wr.heap.size wr w') := by
        have := D.out wr
        rw [← hd] at this
        exact this
      replace hcase := Lib.hid hcase
      replace hP0 := Lib.hid hP0
      replace hP1 := Lib.hid hP1
      clear hp hB SG hcell htz hq hd D hnt hT2 hps
      by_cases hi0 : i = 0
      · have hi0I : ¬ (0 : Int) < (i : Int) := by omega
        have hp1 := Lib.hid (hP0.out hi0)
        clear hP0 hP1 hi0
        by_cases hk : xk = 2
        · have hkB : (xk == 2) = true := by rw [hk]; rfl
          obtain rfl : p = d := hcase.out.1 hk
          clear hcase hk
          go_wp2_with fail
          refine D2.out.mono ?_
          rintro e w2 ⟨rfl, hb2⟩
          have z2 := Lib.hid (btrans zr.out hb2)
          clear hb2 D2 f0 f1 f3 zr
          go_wp2
          go_roundw
          case rel => exact ⟨i + 1, _, rfl, by go_num, by omega, hp1, z2⟩
          case measure => simp [intOf]; omega
        · have hkB : (xk == 2) = false := by rw [beq_eq_false_iff_ne]; exact hk
          obtain rfl : p = q := hcase.out.2 hk
          clear hcase hk D2
          go_wp2
          go_roundw
          case rel => exact ⟨i + 1, _, rfl, by go_num, by omega, hp1, zr⟩
          case measure => simp [intOf]; omega
      · have hi0I : (0 : Int) < (i : Int) := by omega
        have hp1 := Lib.hid (hP1.out (by omega))
        have hos2 : ((o ++ ⟨#[32]⟩ : ByteArray).size : Int) ≤ 20101 := by
          rw [ByteArray.size_append]
          have h1 : (⟨#[32]⟩ : ByteArray).size = 1 := rfl
          omega
        have h321 : ((⟨#[32]⟩ : ByteArray).size : Int) = 1 := rfl
        clear hP0 hP1 hi0
        by_cases hk : xk = 2
        · have hkB : (xk == 2) = true := by rw [hk]; rfl
          obtain rfl : p = d := hcase.out.1 hk
          clear hcase hk
          go_wp2_with fail
          refine D2.out.mono ?_
          rintro e w2 ⟨rfl, hb2⟩
          have z2 := Lib.hid (btrans zr.out hb2)
          clear hb2 D2 f0 f1 f3 zr
          go_wp2
          go_roundw
          case rel => exact ⟨i + 1, _, rfl, by go_num, by omega, hp1, z2⟩
          case measure => simp [intOf]; omega
        · have hkB : (xk == 2) = false := by rw [beq_eq_false_iff_ne]; exact hk
          obtain rfl : p = q := hcase.out.2 hk
          clear hcase hk D2
          go_wp2
          go_roundw
          case rel => exact ⟨i + 1, _, rfl, by go_num, by omega, hp1, zr⟩
          case measure => simp [intOf]; omega
    · have hlI : ¬ (i : Int) < (nt : Int) := by omega
      obtain rfl : i = nt := by omega
      have hr := Lib.hid (FIN.out o rh.out)
      go_wp2
      go_ret
      exact ⟨by rw [hr.out]; rfl, zr.out⟩
end Go.Proofs.YtahcgbaaimmkfaaDoor
