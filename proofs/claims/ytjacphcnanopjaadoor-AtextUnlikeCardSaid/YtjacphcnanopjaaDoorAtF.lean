/- A line's fields, and the places of a word's bits, walked. Conditions: what the listed variables hold; not too many numbers. -/
import Derived.Test.YtjacphcnanopjaaDoorAtL
namespace Go.Proofs.YtjacphcnanopjaaDoor
open Go.Shelf Go.RowKit
set_option linter.unusedVariables false
set_option linter.unusedSimpArgs false

abbrev TBd : Nat := 64
/-- a builder of the call's own -/
def IsB (b : Nat) (l : List UInt8) (w : World) : Prop := Lib.IsBuilderF TBd 5 b b (Lib.byteCells l) w
theorem ownsF_below {w w' : World} {base e size n : Nat} {v : Value} {xs : List Value} (h : w.ownsRowF base e size v n xs) (hb : Below w.heap.size w w') : w'.ownsRowF base e size v n xs := by
  refine ⟨h.1, ?_⟩
  rcases h.2 with h2 | ⟨g, cap, cur, fz, h1, h2, h3, h4⟩
  · exact .inl h2
  · exact .inr ⟨g, cap, cur, fz, h1, h2, (hb.block g (Array.getElem?_eq_some_iff.1 h3).1).trans h3, h4⟩
theorem IsB.below {b : Nat} {l : List UInt8} {w w' : World} (h : IsB b l w) (hb : Below w.heap.size w w') : IsB b l w' := by
  have h1 : ∀ p, Lib.BuilderAtF TBd 5 b b p (Lib.byteCells l) w → Lib.BuilderAtF TBd 5 b b p (Lib.byteCells l) w' := fun p ⟨h1, v, h2, h3, h4⟩ => ⟨h1, v, (hb.block b (Array.getElem?_eq_some_iff.1 h2).1).trans h2, ownsF_below h3 hb, h4⟩
  rcases h with h | h
  · exact .inl (h1 _ h)
  · exact .inr (h1 _ h)
theorem IsB.lt {b : Nat} {l : List UInt8} {w : World} (h : IsB b l w) : b < w.heap.size := by
  rcases h with h | h
  · exact h.lt
  · exact h.lt
theorem IsB.new {w : World} {b : Nat} (hb : b = w.heap.size) : IsB b [] (w.alloc (.cells #[.pointer none, .slice none 0 0] TBd)) := by
  subst hb
  refine .inl ⟨Nat.le_refl _, .slice none 0 0, ?_, ⟨rfl, .inl ⟨rfl, rfl⟩⟩, fun h => (by cases h)⟩
  show (w.heap.push _)[w.heap.size]? = _
  rw [Array.getElem?_push_size]
theorem write_d (b : Nat) (l : List UInt8) (s : ByteArray) (w : World) (h : IsB b l w) (hlen : l.length + s.size ≤ 1000000000) :
    Calls Tryd.prog 34 #[.pointer (some ⟨b, 0, none⟩), .string s] w fun e w' => e = .returned (.tuple #[.int .i64 s.size, .nilIface]) ∧ IsB b (l ++ s.data.toList) w' ∧ Below b w w' := by
  have hl : (Lib.byteCells l).length = l.length := List.length_map ..
  refine (Any.Builder_WriteString_k Tryd.laysWrite Tryd.extraJoin b b (Lib.byteCells l) s w h (by rw [hl]; omega) (Nat.le_of_lt h.lt)).mono fun e w' ⟨h1, h2, h3, _⟩ => ⟨h1, .inr ?_, h3⟩
  have e : Lib.byteCells l ++ Lib.strCells s = Lib.byteCells (l ++ s.data.toList) := by
    unfold Lib.byteCells Lib.strCells
    rw [List.map_append]
  rw [e] at h2
  exact h2
theorem string_d (b : Nat) (l : List UInt8) (w : World) (h : IsB b l w) :
    Calls Tryd.prog 35 #[.pointer (some ⟨b, 0, none⟩)] w fun e w' => e = .returned (.string ⟨l.toArray⟩) ∧ Below b w w' :=
  (Any.Builder_String_any_k Tryd.laysString Tryd.extraJoin b b l w h (Nat.le_of_lt h.lt)).mono fun e w' ⟨h1, _, h3, _⟩ => ⟨h1, h3⟩
theorem cat_data (a b : ByteArray) : (a ++ b).data.toList = a.data.toList ++ b.data.toList := by
  simp
theorem size_data (a : ByteArray) : a.size = a.data.toList.length := by rw [Array.length_toList]; rfl
/-- numbers, each behind a blank and a sign -/
def fldW (sg : List UInt8) (l : List Int) : List UInt8 := l.flatMap fun n => 32 :: (sg ++ Lib.itoa n)
theorem fldW_snoc (sg : List UInt8) (l : List Int) (n : Int) : fldW sg (l ++ [n]) = fldW sg l ++ (32 :: (sg ++ Lib.itoa n)) := by simp [fldW]
theorem fldW_len (sg : List UInt8) : ∀ (l : List Int), (∀ n ∈ l, -9223372036854775808 ≤ n ∧ n ≤ 9223372036854775807) → (fldW sg l).length ≤ l.length * (sg.length + 22)
  | [], _ => Nat.zero_le _
  | n :: l, h => by
    have ih := fldW_len sg l (fun m hm => h m (List.mem_cons_of_mem _ hm))
    obtain ⟨h0, h1⟩ := h n (List.mem_cons_self ..)
    have hi := itoa_len n h0 h1
    rw [size_data] at hi
    have hi : (Lib.itoa n).length ≤ 21 := hi
    show ((32 :: (sg ++ Lib.itoa n)) ++ fldW sg l).length ≤ _
    simp only [List.length_append, List.length_cons]
    have : (l.length + 1) * (sg.length + 22) = l.length * (sg.length + 22) + (sg.length + 22) := Nat.succ_mul ..
    omega
theorem joinF_ints (l : List Int) : joinF (l.map Lib.itoa) = fldW [] l := by
  unfold joinF fldW
  rw [List.flatMap_map]
  rfl
theorem joinF_sgn (c : UInt8) (u : Nat) : joinF (sgn c u) = fldW [c] ((bitsP u).map fun i : Nat => (i : Int)) := by
  unfold joinF fldW sgn
  rw [List.flatMap_map, List.flatMap_map]
  rfl
theorem joinF_app (a b : List (List UInt8)) : joinF (a ++ b) = joinF a ++ joinF b := by simp [joinF]
theorem lineN_fld (x : AN) : lineN x = [110, 111, 100, 101] ++ fldW [43] ((bitsP x.need).map fun i : Nat => (i : Int)) ++ fldW [45] ((bitsP x.ban).map fun i : Nat => (i : Int)) ++ fldW [64] ((bitsP x.inn).map fun i : Nat => (i : Int)) ++ ([32, 116, 111] ++ fldW [] x.to) := by
  unfold lineN wordsN
  rw [joinF_app, joinF_app, joinF_app, joinF_sgn, joinF_sgn, joinF_sgn]
  show [110, 111, 100, 101] ++ (_ ++ (_ ++ (_ ++ ((32 :: [116, 111]) ++ joinF (x.to.map Lib.itoa))))) = _
  rw [joinF_ints]
  simp only [List.append_assoc]
  try rfl
set_option maxRecDepth 8000 in
set_option maxHeartbeats 4000000 in
theorem fields_any (w : World) (hd : Door w) (wd sg : ByteArray) (a : Option Addr) (c : Nat) (l : List Int) (h : IntsAt w a l) (hr : ∀ n ∈ l, -9223372036854775808 ≤ n ∧ n ≤ 9223372036854775807) (hl : l.length ≤ 100000) (hwd : wd.size ≤ 100) (hsg : sg.size ≤ 10) :
    Calls Tryd.prog 36 #[.string wd, .string sg, .slice a l.length c] w fun e w' => e = .returned (.string ⟨(wd.data.toList ++ fldW sg.data.toList l).toArray⟩) ∧ Below w.heap.size w w' := by
  obtain ⟨res, hres⟩ : ∃ res : ByteArray, res = ⟨(wd.data.toList ++ fldW sg.data.toList l).toArray⟩ := ⟨_, rfl⟩
  rw [← hres]
  have D : Hid (∀ v, Below w.heap.size w v → ∀ i (hi : i < l.length), Calls Tryd.prog 53 #[.int .i64 l[i]] v fun e w' => e = .returned (.string ⟨(Lib.itoa l[i]).toArray⟩) ∧ Below v.heap.size v w') := fun v hb i hi => decimal_any v (hd.below hb) l[i] (hr _ (List.getElem_mem hi)).1 (hr _ (List.getElem_mem hi)).2
  have SZ : Hid (∀ i (hi : i < l.length), (⟨(Lib.itoa l[i]).toArray⟩ : ByteArray).size ≤ 21) := fun i hi => itoa_len _ (hr _ (List.getElem_mem hi)).1 (hr _ (List.getElem_mem hi)).2
  have LN : Hid (∀ i, (wd.data.toList ++ fldW sg.data.toList (l.take i)).length ≤ 4000000) := fun i => by
    have h1 := fldW_len sg.data.toList (l.take i) (fun n hn => hr n (List.mem_of_mem_take hn))
    rw [List.length_append, ← size_data]
    rw [← size_data] at h1
    have h2 : (l.take i).length ≤ 100000 := by rw [List.length_take]; omega
    have h3 : (l.take i).length * (sg.size + 22) ≤ 100000 * 32 := Nat.mul_le_mul h2 (by omega)
    omega
  obtain ⟨n, hn⟩ : ∃ n, n = l.length := ⟨_, rfl⟩
  rw [← hn]
  have hnI : (n : Int) ≤ 100000 := by omega
  have hsgI : (sg.size : Int) ≤ 10 := by omega
  obtain ⟨b, hb⟩ : ∃ b, b = w.heap.size := ⟨_, rfl⟩
  obtain ⟨w1, hw1⟩ : ∃ w1, w1 = w.alloc (.cells #[.pointer none, .slice none 0 0] TBd) := ⟨_, rfl⟩
  have B1 : Below w.heap.size w w1 := by rw [hw1]; exact balloc (Below.refl _ _) _
  have I1 : IsB b [] w1 := by rw [hw1]; exact IsB.new hb
  have W1 := Lib.hid (write_d b [] wd w1 I1 (by show 0 + wd.size ≤ _; omega))
  replace hb := Lib.hid hb
  replace hw1 := Lib.hid hw1
  replace h := Lib.hid h
  replace hn := Lib.hid hn
  replace hres := Lib.hid hres
  clear hr hd hl hsg I1 hwd
  go_enter Tryd.func36, Tryd.ntmps36
  go_upto_region 2 with (fail)
  rw [← hw1.out, ← hb.out]
  go_wp2_with fail
  refine W1.out.mono ?_
  rintro e w2 ⟨rfl, I2, b2⟩
  rw [List.nil_append] at I2
  have Z2 : Hid (Below w.heap.size w w2) := B1.trans (by rw [← hb.out]; exact b2)
  have J2 : Hid (IsB b (wd.data.toList ++ fldW sg.data.toList (l.take 0)) w2) := by
    show IsB _ _ _
    have e : fldW sg.data.toList (l.take 0) = [] := by rw [List.take_zero]; rfl
    rw [e, List.append_nil]
    exact I2
  clear W1 I2 b2 B1
  go_wp2
  go_loopw [14] (fun iv wr => ∃ i : Nat, iv = .int .i64 (i : Int) ∧ i ≤ n ∧ Hid (IsB b (wd.data.toList ++ fldW sg.data.toList (l.take i)) wr) ∧ Hid (Below w.heap.size w wr)) (fun iv _ => n - (intOf iv).toNat)
  case atStart => exact ⟨0, rfl, Nat.zero_le _, J2, Z2⟩
  case round =>
    obtain ⟨i, rfl, hi, J, Z⟩ := hrel
    clear J2 Z2
    by_cases hlt : i < n
    · have hlI : (i : Int) < (n : Int) := by omega
      have hiN : i < l.length := by have := hn.out; omega
      obtain ⟨ab, ao, x, ea, cx, hx⟩ := (h.out.below Z.out).at i hiN
      have hx2 : l.getD i 0 = l[i]'hiN := by simp [List.getD, List.getElem?_eq_getElem hiN]
      have hxo := hx.out
      rw [hx2] at hxo
      have D1 := Lib.hid (D.out wr Z.out i hiN)
      have S1 := SZ.out i hiN
      have SN : Hid (fldW sg.data.toList (l.take (i + 1)) = fldW sg.data.toList (l.take i) ++ (32 :: (sg.data.toList ++ Lib.itoa x))) := by
        show _ = _
        rw [List.take_succ_eq_append_getElem hiN, fldW_snoc, hxo]
      rw [← hxo] at D1 S1
      have L1 := LN.out i
      obtain ⟨dx, hdx⟩ : ∃ dx : ByteArray, dx = ⟨(Lib.itoa x).toArray⟩ := ⟨_, rfl⟩
      have hdd : dx.data.toList = Lib.itoa x := by rw [hdx]
      rw [← hdx] at D1 S1
      rw [← hdd] at SN
      have S1I : (dx.size : Int) ≤ 21 := by omega
      subst ea
      have sz1 : ((⟨#[32]⟩ : ByteArray) ++ sg).size = 1 + sg.size := ByteArray.size_append
      have sz2 : ((⟨#[32]⟩ : ByteArray) ++ sg ++ dx).size = 1 + sg.size + dx.size := by rw [ByteArray.size_append, sz1]
      have wr3 : Hid (∀ v, IsB b (wd.data.toList ++ fldW sg.data.toList (l.take i)) v → Calls Tryd.prog 34 #[.pointer (some ⟨b, 0, none⟩), .string (⟨#[32]⟩ ++ sg ++ dx)] v fun e w' => e = .returned (.tuple #[.int .i64 ((⟨#[32]⟩ : ByteArray) ++ sg ++ dx).size, .nilIface]) ∧ IsB b (wd.data.toList ++ fldW sg.data.toList (l.take (i + 1))) w' ∧ Below b v w') := fun v hv => by
        have h1 := write_d b _ (⟨#[32]⟩ ++ sg ++ dx) v hv (by rw [sz2]; omega)
        rw [cat_data, cat_data, List.append_assoc] at h1
        rw [SN.out]
        exact h1
      replace L1 := Lib.hid L1
      clear hx hxo hx2 hdx hdd SN D SZ LN
      go_wp2_with fail
      refine D1.out.mono ?_
      rintro e w3 ⟨rfl, b3⟩
      have C3 := Lib.hid (wr3.out w3 (J.out.below b3))
      have Z3 := Lib.hid (btrans Z.out b3)
      clear D1 b3 wr3
      go_wp2_with fail
      refine C3.out.mono ?_
      rintro e w4 ⟨rfl, J4, b4⟩
      have Z4 : Hid (Below w.heap.size w w4) := Z3.out.trans (by rw [← hb.out]; exact b4)
      replace J4 := Lib.hid J4
      clear C3 b4 Z3
      go_wp2
      go_roundw
      case rel => exact ⟨i + 1, by go_num, by omega, J4, Z4⟩
      case measure => simp [intOf]; omega
    · have hlI : ¬ (i : Int) < (n : Int) := by omega
      have he : i = n := by omega
      subst he
      have S5 : Hid (Calls Tryd.prog 35 #[.pointer (some ⟨b, 0, none⟩)] wr fun e w' => e = .returned (.string res) ∧ Below b wr w') := by
        have h1 := string_d b _ wr J.out
        rw [hn.out, List.take_length, ← hres.out] at h1
        exact h1
      clear J D SZ LN
      go_wp2_with fail
      refine S5.out.mono ?_
      rintro e w5 ⟨rfl, b5⟩
      have Z5 : Hid (Below w.heap.size w w5) := Z.out.trans (by rw [← hb.out]; exact b5)
      clear S5 b5 Z
      go_wp2
      go_ret
      exact ⟨rfl, Z5.out⟩
end Go.Proofs.YtjacphcnanopjaaDoor
