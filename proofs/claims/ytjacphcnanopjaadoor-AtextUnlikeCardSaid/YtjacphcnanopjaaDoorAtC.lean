/- A text's pieces, walked: the document's cut. Conditions: short texts. -/
import Derived.Test.YtjacphcnanopjaaDoorAtM
namespace Go.Proofs.YtjacphcnanopjaaDoor
open Go.Shelf Go.RowKit
set_option linter.unusedVariables false
set_option linter.unusedSimpArgs false

/-- a piece that is begun, ahead of pieces -/
def glue (u : List UInt8) : List (List UInt8) → List (List UInt8)
  | [] => [u]
  | h :: t => (u ++ h) :: t
theorem glue_nil {l : List (List UInt8)} (h : l ≠ []) : glue [] l = l := by
  cases l with
  | nil => exact absurd rfl h
  | cons a t => rfl
/-- what has been cut so far -/
structure CutS (b : UInt8) (L : List UInt8) (f i : Nat) (P : List (List UInt8)) : Prop where
  eq : cutP b L = P ++ glue ((L.drop f).take (i - f)) (cutP b (L.drop i))
  le : f ≤ i
  il : i ≤ L.length
theorem CutS.start (b : UInt8) (L : List UInt8) : CutS b L 0 0 [] := ⟨by rw [List.drop_zero, List.nil_append]; show _ = glue [] _; rw [glue_nil (cut_ne b L)], Nat.le_refl _, Nat.zero_le _⟩
theorem CutS.cut {b : UInt8} {L : List UInt8} {f i : Nat} {P : List (List UInt8)} (h : CutS b L f i P) (hi : i < L.length) (hb : L[i] = b) : CutS b L (i + 1) (i + 1) (P ++ [(L.drop f).take (i - f)]) := by
  refine ⟨?_, Nat.le_refl _, hi⟩
  have h1 := h.eq
  rw [List.drop_eq_getElem_cons hi, cutP, if_pos hb] at h1
  rw [h1, Nat.sub_self, List.take_zero, glue_nil (cut_ne b _), List.append_assoc]
  show P ++ (((L.drop f).take (i - f) ++ []) :: cutP b (L.drop (i + 1))) = _
  rw [List.append_nil]
  try rfl
theorem CutS.on {b : UInt8} {L : List UInt8} {f i : Nat} {P : List (List UInt8)} (h : CutS b L f i P) (hi : i < L.length) (hb : ¬ L[i] = b) : CutS b L f (i + 1) P := by
  refine ⟨?_, Nat.le_succ_of_le h.le, hi⟩
  have h1 := h.eq
  rw [List.drop_eq_getElem_cons hi, cutP, if_neg hb] at h1
  have hn := cut_ne b (L.drop (i + 1))
  have e : (L.drop f).take (i + 1 - f) = (L.drop f).take (i - f) ++ [L[i]] := by
    have hl : i - f < (L.drop f).length := by rw [List.length_drop]; have := h.le; omega
    rw [show i + 1 - f = i - f + 1 by have := h.le; omega, List.take_succ_eq_append_getElem hl]
    congr 2
    rw [List.getElem_drop]
    congr 1
    have := h.le
    omega
  rw [h1, e]
  revert hn
  cases cutP b (L.drop (i + 1)) with
  | nil => intro hn; exact absurd rfl hn
  | cons a t =>
    intro _
    show P ++ ((L.drop f).take (i - f) ++ L[i] :: a) :: t = P ++ (((L.drop f).take (i - f) ++ [L[i]]) ++ a) :: t
    rw [List.append_assoc]
    rfl
theorem CutS.last {b : UInt8} {L : List UInt8} {f i : Nat} {P : List (List UInt8)} (h : CutS b L f i P) (hi : i = L.length) : P ++ [(L.drop f).take (i - f)] = cutP b L := by
  have h1 := h.eq
  rw [hi, List.drop_length, cutP] at h1
  rw [h1, hi]
  show _ = P ++ [(L.drop f).take (L.length - f) ++ []]
  rw [List.append_nil]
theorem mid_str (s : ByteArray) (a b : Nat) : (s.extract a b).data.toList = (s.data.toList.drop a).take (b - a) := by
  rw [ByteArray.data_extract, Array.toList_extract]
  try simp [List.extract_eq_drop_take]
/-- texts that a call hands out, in a row of its own -/
def GivesS (w : World) (N : List (List UInt8)) (e : Ending) (w' : World) : Prop := ∃ oa oc, e = .returned (.slice oa N.length oc) ∧ OwnR w' w.heap.size TStr 1 oa N.length oc (strV N) ∧ Below w.heap.size w w'
theorem strV_snoc (P : List (List UInt8)) (x : List UInt8) : strV (P ++ [x]) = strV P ++ [.string ⟨x.toArray⟩] := by unfold strV; rw [List.map_append]; rfl
set_option maxRecDepth 8000 in
set_option maxHeartbeats 8000000 in
theorem rcut_any (w : World) (s : ByteArray) (hs : s.size ≤ 1000000000000) (b : UInt8) :
    Calls Tryd.prog 27 #[.string s, .int .u8 (b.toNat : Int)] w fun e w' => GivesS w (cutP b s.data.toList) e w' := by
  obtain ⟨L, hL⟩ : ∃ L, L = s.data.toList := ⟨_, rfl⟩
  have hLn : s.size = L.length := by rw [hL, Array.length_toList]; rfl
  rw [← hL]
  have hsI : (s.size : Int) ≤ 1000000000000 := by omega
  have hb8 : (b.toNat : Int) < 256 := by have := b.toNat_lt; omega
  have AT : Hid (∀ i (h : i < s.size) (h2 : i < L.length), s[i] = L[i]) := fun i h h2 => by
    subst hL
    exact data_at s i h _
  have EX : Hid (∀ f i, (⟨((L.drop f).take (i - f)).toArray⟩ : ByteArray) = s.extract f i) := fun f i => by
    refine (str_eq _ _).2 ?_
    rw [mid_str, hL]
  have S0 : Hid (0 ≤ L.length ∧ CutS b L 0 0 [] ∨ False) := .inl ⟨Nat.zero_le _, CutS.start b L⟩
  have O0 : Hid (OwnR w w.heap.size TStr 1 none 0 0 (strV [])) := OwnR.nil _ _ _ _
  replace hLn := Lib.hid hLn
  clear hL hs
  go_enter Tryd.func27, Tryd.ntmps27
  go_wp2
  go_loopw [5, 6, 7] (fun ov fv iv wr => ∃ (i f n : Nat) (P : List (List UInt8)) (oa : Option Addr) (oc : Nat), ov = .slice oa n oc ∧ fv = .int .i64 (f : Int) ∧ iv = .int .i64 (i : Int) ∧ f ≤ s.size + 1 ∧ i ≤ s.size + 1 ∧ Hid (n = P.length ∧ n ≤ i) ∧ Hid ((i ≤ L.length ∧ CutS b L f i P) ∨ (i = L.length + 1 ∧ P = cutP b L)) ∧ Hid (OwnR wr w.heap.size TStr 1 oa n oc (strV P)) ∧ Hid (Below w.heap.size w wr)) (fun _ _ iv _ => s.size + 1 - (intOf iv).toNat)
  case atStart => exact ⟨0, 0, 0, [], none, 0, rfl, rfl, rfl, Nat.zero_le _, Nat.zero_le _, ⟨rfl, Nat.le_refl _⟩, .inl ⟨Nat.zero_le _, CutS.start b L⟩, O0, Below.refl _ _⟩
  case round =>
    obtain ⟨i, f, n, P, oa, oc, rfl, rfl, rfl, hf, hi, hn, st, own, Z⟩ := hrel
    clear S0 O0
    by_cases hlt : i ≤ s.size
    · have hlI : (i : Int) ≤ (s.size : Int) := by omega
      have hcs : CutS b L f i P := by
        rcases st.out with ⟨_, h⟩ | ⟨h, _⟩
        · exact h
        · have := hLn.out; omega
      have hfi := hcs.le
      have hfI : (f : Int) ≤ (i : Int) := by omega
      have hnb : n ≤ 1000000000001 := by have := hn.out.2; omega
      by_cases hend : i = s.size
      · subst hend
        have hP := hcs.last hLn.out
        have hx := EX.out f s.size
        have hon : Hid (strV (cutP b L) = strV P ++ [.string (s.extract f s.size)]) := by
          show _ = _
          rw [← hP, strV_snoc, hx]
        have hn2 : Hid (n + 1 = (cutP b L).length ∧ n + 1 ≤ s.size + 1) := ⟨by rw [← hP, List.length_append, ← hn.out.1]; rfl, by have := hn.out.2; omega⟩
        clear st hcs hP hx AT EX hn
        have hst : Hid ((s.size + 1 ≤ L.length ∧ CutS b L (s.size + 1) (s.size + 1) (cutP b L)) ∨ (s.size + 1 = L.length + 1 ∧ cutP b L = cutP b L)) := .inr ⟨by rw [hLn.out], rfl⟩
        go_upto_region 7 with (fail)
        refine wp_region_list ?_
        refine wpList_plain rfl (fun K hK => ?_)
        go_simp
        refine hK _ _ ?_
        clear hK K
        refine wpList_plain rfl (fun K hK => ?_)
        go_simp
        refine hK _ _ ?_
        clear hK K
        refine wpList_plain rfl (fun K hK => ?_)
        go_simp
        refine hK _ _ ?_
        clear hK K
        refine wpList_plain rfl (fun K hK => ?_)
        go_simp
        refine hK _ _ ?_
        clear hK K
        refine wpList_plain rfl (fun K hK => ?_)
        go_simp
        refine hK _ _ ?_
        clear hK K
        obtain ⟨x, hx⟩ : ∃ x, x = s.extract f s.size := ⟨_, rfl⟩
        rw [← hx] at hon ⊢
        replace hx := Lib.hid hx
        refine wpList_plain rfl (fun K hK => ?_)
        go_simp
        refine hK _ _ ?_
        clear hK K
        obtain ⟨w7, hw7⟩ : ∃ w7, w7 = wr.alloc (.cells #[.string x] TStr) := ⟨_, rfl⟩
        obtain ⟨g7, hg7⟩ : ∃ g7, g7 = wr.heap.size := ⟨_, rfl⟩
        have r7 : RowAt w7 g7 TStr [.string x] := by rw [hw7]; exact RowAt.new #[.string x] hg7
        have b67 : Below wr.heap.size wr w7 := by rw [hw7]; exact balloc (Below.refl _ _) _
        rw [← hw7, ← hg7]
        have own7 : OwnR w7 w.heap.size TStr 1 oa n oc (strV P) := OwnR.keeps (S := fun _ => False) own.out (Keeps.of_below b67) (fun _ _ h => h)
        have z7 := Lib.hid (btrans Z.out b67)
        replace hw7 := Lib.hid hw7
        replace hg7 := Lib.hid hg7
        refine wp_appR rfl (.tmp 25) (.tmp 30) 41 TStr (.string ⟨#[]⟩) 1 16 rfl Tryd.underlying41 infoStr3 rfl (by decide) w.heap.size oa n oc (strV P) rfl own7 g7 1 [.string x] rfl rfl (fun j u hj => by
          have := r7.cell j
          rw [hj] at this
          rw [add_off, Nat.zero_add]
          exact this) (fun v hv => by rw [List.mem_singleton] at hv; subst hv; rfl) (by unfold maxLen; omega) (by omega) z7.out.size ?_
        intro oa8 oc8 w8 own8 hg8 _
        have z8 := Lib.hid (bgrown z7.out hg8 (fun k hk => (OwnR.lt own7 hk).1))
        have own9 : Hid (OwnR w8 w.heap.size TStr 1 oa8 (n + 1) oc8 (strV (cutP b L))) := by
          show OwnR _ _ _ _ _ _ _ _
          rw [hon.out]
          exact own8
        clear r7 b67 own7 z7 hg8 own8 hon
        refine wpList_plain rfl (fun K hK => ?_)
        go_simp
        refine hK _ _ ?_
        clear hK K
        refine wpList_nil ?_
        go_wp2
        go_roundw
        case rel => exact ⟨s.size + 1, s.size + 1, n + 1, cutP b L, oa8, oc8, rfl, by go_num, by go_num, by omega, by omega, hn2, hst, own9, z8⟩
        case measure => simp [intOf]
      · have hls : i < s.size := by omega
        have hlsI : (i : Int) < (s.size : Int) := by omega
        have hiL : i < L.length := by have := hLn.out; omega
        have at1 := AT.out i hls hiL
        have hneB : ((i : Int) == (s.size : Int)) = false := by rw [beq_eq_false_iff_ne]; omega
        have hneN : (i == s.size) = false := by rw [beq_eq_false_iff_ne]; exact hend
        by_cases hb : L[i] = b
        · have hc2 := hcs.cut hiL hb
          have f1 : ((s[i].toNat : Int) == (b.toNat : Int)) = true := by rw [at1, hb]; exact beq_self_eq_true _
          have f2 : (s[i].toNat == b.toNat) = true := by rw [at1, hb]; exact beq_self_eq_true _
          have hx := EX.out f i
          have hon : Hid (strV (P ++ [(L.drop f).take (i - f)]) = strV P ++ [.string (s.extract f i)]) := by
            show _ = _
            rw [strV_snoc, hx]
          have hn2 : Hid (n + 1 = (P ++ [(L.drop f).take (i - f)]).length ∧ n + 1 ≤ i + 1) := ⟨by rw [List.length_append, ← hn.out.1]; rfl, by have := hn.out.2; omega⟩
          have hst : Hid ((i + 1 ≤ L.length ∧ CutS b L (i + 1) (i + 1) (P ++ [(L.drop f).take (i - f)])) ∨ (i + 1 = L.length + 1 ∧ P ++ [(L.drop f).take (i - f)] = cutP b L)) := .inl ⟨hiL, hc2⟩
          generalize P ++ [(L.drop f).take (i - f)] = P2 at hon hn2 hst
          clear st hcs hx AT EX hn hc2 hb at1 hend
          go_upto_region 7 with (fail)
          refine wp_region_list ?_
          refine wpList_plain rfl (fun K hK => ?_)
          go_simp
          refine hK _ _ ?_
          clear hK K
          refine wpList_plain rfl (fun K hK => ?_)
          go_simp
          refine hK _ _ ?_
          clear hK K
          refine wpList_plain rfl (fun K hK => ?_)
          go_simp
          refine hK _ _ ?_
          clear hK K
          refine wpList_plain rfl (fun K hK => ?_)
          go_simp
          refine hK _ _ ?_
          clear hK K
          refine wpList_plain rfl (fun K hK => ?_)
          go_simp
          refine hK _ _ ?_
          clear hK K
          obtain ⟨x, hx⟩ : ∃ x, x = s.extract f i := ⟨_, rfl⟩
          rw [← hx] at hon ⊢
          replace hx := Lib.hid hx
          refine wpList_plain rfl (fun K hK => ?_)
          go_simp
          refine hK _ _ ?_
          clear hK K
          obtain ⟨w7, hw7⟩ : ∃ w7, w7 = wr.alloc (.cells #[.string x] TStr) := ⟨_, rfl⟩
          obtain ⟨g7, hg7⟩ : ∃ g7, g7 = wr.heap.size := ⟨_, rfl⟩
          have r7 : RowAt w7 g7 TStr [.string x] := by rw [hw7]; exact RowAt.new #[.string x] hg7
          have b67 : Below wr.heap.size wr w7 := by rw [hw7]; exact balloc (Below.refl _ _) _
          rw [← hw7, ← hg7]
          have own7 : OwnR w7 w.heap.size TStr 1 oa n oc (strV P) := OwnR.keeps (S := fun _ => False) own.out (Keeps.of_below b67) (fun _ _ h => h)
          have z7 := Lib.hid (btrans Z.out b67)
          replace hw7 := Lib.hid hw7
          replace hg7 := Lib.hid hg7
          refine wp_appR rfl (.tmp 25) (.tmp 30) 41 TStr (.string ⟨#[]⟩) 1 16 rfl Tryd.underlying41 infoStr3 rfl (by decide) w.heap.size oa n oc (strV P) rfl own7 g7 1 [.string x] rfl rfl (fun j u hj => by
            have := r7.cell j
            rw [hj] at this
            rw [add_off, Nat.zero_add]
            exact this) (fun v hv => by rw [List.mem_singleton] at hv; subst hv; rfl) (by unfold maxLen; omega) (by omega) z7.out.size ?_
          intro oa8 oc8 w8 own8 hg8 _
          have z8 := Lib.hid (bgrown z7.out hg8 (fun k hk => (OwnR.lt own7 hk).1))
          have own9 : Hid (OwnR w8 w.heap.size TStr 1 oa8 (n + 1) oc8 (strV (P2))) := by
            show OwnR _ _ _ _ _ _ _ _
            rw [hon.out]
            exact own8
          clear r7 b67 own7 z7 hg8 own8 hon
          refine wpList_plain rfl (fun K hK => ?_)
          go_simp
          refine hK _ _ ?_
          clear hK K
          refine wpList_nil ?_
          go_wp2
          go_roundw
          case rel => exact ⟨i + 1, i + 1, n + 1, P2, oa8, oc8, rfl, by go_num, by go_num, by omega, by omega, hn2, hst, own9, z8⟩
          case measure => simp [intOf]; omega
        · have hc2 := hcs.on hiL hb
          have hbn : ¬ s[i].toNat = b.toNat := fun e => hb (by rw [← at1]; exact UInt8.toNat_inj.1 e)
          have f1 : ((s[i].toNat : Int) == (b.toNat : Int)) = false := by rw [beq_eq_false_iff_ne]; omega
          have f2 : (s[i].toNat == b.toNat) = false := by rw [beq_eq_false_iff_ne]; exact hbn
          have hn2 : Hid (n = P.length ∧ n ≤ i + 1) := ⟨hn.out.1, by have := hn.out.2; omega⟩
          have hst : Hid ((i + 1 ≤ L.length ∧ CutS b L f (i + 1) P) ∨ (i + 1 = L.length + 1 ∧ P = cutP b L)) := .inl ⟨hiL, hc2⟩
          clear st hcs AT EX hn hc2 hb at1 hend hbn
          go_wp2
          go_roundw
          case rel => exact ⟨i + 1, f, n, P, oa, oc, rfl, rfl, by go_num, by omega, by omega, hn2, hst, own, Z⟩
          case measure => simp [intOf]; omega
    · have hlI : ¬ (i : Int) ≤ (s.size : Int) := by omega
      have hP : P = cutP b L := by
        rcases st.out with ⟨h, _⟩ | ⟨_, h⟩
        · have := hLn.out; omega
        · exact h
      subst hP
      have hnl := hn.out.1
      subst hnl
      have hf : Hid (GivesS w (cutP b L) (.returned (.slice oa (cutP b L).length oc)) wr) := ⟨oa, oc, rfl, own.out, Z.out⟩
      generalize (cutP b L).length = cl at *
      clear st own AT EX hn
      go_wp2
      go_ret
      exact hf.out
end Go.Proofs.YtjacphcnanopjaaDoor
