/- An automaton's text, walked: the program's. Conditions: what the listed variables hold; not too many numbers. -/
import Derived.Test.YtjacphcnanopjaaDoorAtT
namespace Go.Proofs.YtjacphcnanopjaaDoor
open Go.Shelf Go.RowKit
set_option linter.unusedVariables false
set_option linter.unusedSimpArgs false

/-- not too many numbers -/
structure AuFew (A : AU) : Prop where
  nl : A.nodes.length ≤ 30000
  il : A.init.length ≤ 100000
  tl : ∀ x ∈ A.nodes, x.to.length ≤ 100000
theorem itoa_le (n : Int) (h : -9223372036854775808 ≤ n ∧ n ≤ 9223372036854775807) : (Lib.itoa n).length ≤ 21 := by
  have := itoa_len n h.1 h.2
  rw [size_data] at this
  exact this
theorem fld_le (sg : List UInt8) (l : List Int) (hr : ∀ n ∈ l, -9223372036854775808 ≤ n ∧ n ≤ 9223372036854775807) (hl : l.length ≤ 100000) (hs : sg.length ≤ 10) : (fldW sg l).length ≤ 3200000 := by
  have h1 := fldW_len sg l hr
  have h2 : l.length * (sg.length + 22) ≤ 100000 * 32 := Nat.mul_le_mul hl (by omega)
  omega
theorem line_le {A : AU} (ok : AuOk A) (few : AuFew A) : ∀ l ∈ linesP A, l.length ≤ 16000000 := by
  intro l hl
  unfold linesP at hl
  rcases List.mem_cons.1 hl with e | e
  · subst e
    have h1 := fld_le [] [A.sets] (fun n hn => by rw [List.mem_singleton] at hn; subst hn; exact ok.sets) (by show 1 ≤ 100000; decide) (by decide)
    unfold lineA
    rw [show ([Lib.itoa A.sets] : List (List UInt8)) = [A.sets].map Lib.itoa from rfl, joinF_ints, List.length_append]
    show 4 + _ ≤ _
    omega
  rcases List.mem_cons.1 e with e | e
  · subst e
    have h1 := fld_le [] A.init ok.init few.il (by decide)
    unfold lineI
    rw [joinF_ints, List.length_append]
    show 4 + _ ≤ _
    omega
  · obtain ⟨x, hx, rfl⟩ := List.mem_map.1 e
    have hb : ∀ u, (bitsK u 64).length ≤ 100000 := fun u => Nat.le_trans (bitsK_le u 64) (by decide)
    have h1 := fld_le [43] (bitsK x.need 64) (bitsK_rng _) (hb _) (by decide)
    have h2 := fld_le [45] (bitsK x.ban 64) (bitsK_rng _) (hb _) (by decide)
    have h3 := fld_le [64] (bitsK x.inn 64) (bitsK_rng _) (hb _) (by decide)
    have h4 := fld_le [] x.to (ok.nodes x hx).2.2.2.2 (few.tl x hx) (by decide)
    rw [lineN_fld]
    simp only [List.length_append, List.length_cons, List.length_nil]
    rw [bitsK_64] at h1 h2 h3
    omega
theorem flat_le (B : Nat) : ∀ (ls : List (List UInt8)), (∀ l ∈ ls, l.length ≤ B) → (ls.flatMap fun l => l ++ [10]).length ≤ ls.length * (B + 1)
  | [], _ => Nat.zero_le _
  | l :: ls, h => by
    have ih := flat_le B ls (fun m hm => h m (List.mem_cons_of_mem _ hm))
    have h1 := h l (List.mem_cons_self ..)
    rw [List.flatMap_cons, List.length_append, List.length_append]
    have : (ls.length + 1) * (B + 1) = ls.length * (B + 1) + (B + 1) := Nat.succ_mul ..
    show l.length + 1 + _ ≤ (ls.length + 1) * (B + 1)
    omega
theorem whole_le {A : AU} (ok : AuOk A) (few : AuFew A) : (wholeP A).length ≤ 1000000000000 := by
  have h1 := flat_le 16000000 (linesP A) (line_le ok few)
  rw [lines_len] at h1
  have h2 : (A.nodes.length + 2) * (16000000 + 1) ≤ 30002 * 16000001 := Nat.mul_le_mul (by have := few.nl; omega) (Nat.le_refl _)
  show ((linesP A).flatMap fun l => l ++ [10]).length ≤ _
  omega
/-- what Text gives -/
def TextV (w : World) (A : AU) (e : Ending) (w' : World) : Prop := e = .returned (.tuple #[.string ⟨(textP A).1.toArray⟩, .int .i64 (textP A).2]) ∧ Below w.heap.size w w'
set_option maxRecDepth 8000 in
set_option maxHeartbeats 4000000 in
theorem text_any (w : World) (hd : Door w) (ai an : Option Addr) (ci cn : Nat) (A : AU) (h : AuAt w ai A.init.length an A.nodes.length A) (ok : AuOk A) (few : AuFew A) :
    Calls Tryd.prog 10 #[.agg #[.int .i64 A.sets, .slice ai A.init.length ci, .slice an A.nodes.length cn]] w fun e w' => TextV w A e w' := by
  have hwl := whole_le ok few
  have hjl := join_lines A
  have CK : Hid (∀ v, Below w.heap.size w v → Calls Tryd.prog 17 #[.agg #[.int .i64 A.sets, .slice ai A.init.length ci, .slice an A.nodes.length cn]] v fun e w' => e = .returned (.int .i64 (chk A)) ∧ Below v.heap.size v w') := fun v hb => check_any v ai an ci cn A (h.below hb) ok
  have LN : Hid (∀ v, Below w.heap.size w v → Calls Tryd.prog 19 #[.agg #[.int .i64 A.sets, .slice ai A.init.length ci, .slice an A.nodes.length cn]] v fun e w' => LinesV v A e w') := fun v hb => lines_any v (hd.below hb) ai an ci cn A (h.below hb) ok (Nat.le_trans few.nl (by decide)) few.il few.tl
  have hlen := lines_len A
  have JN : Hid (∀ v oa oc base, OwnR v base 9 1 oa (linesP A).length oc (strV (linesP A)) → Calls Tryd.prog 18 #[.slice oa (linesP A).length oc, .string ⟨#[10]⟩] v fun e w' => e = .returned (.string ⟨(Lib.join (linesP A) [10]).toArray⟩) ∧ Below v.heap.size v w') := fun v oa oc base ho =>
    join_d v oa oc (linesP A) (StrsAt.of_own ho) (by rw [hlen]; omega) (by rw [hlen]; have := few.nl; omega) (OwnR.caps ho).1 (by
      have h2 : (Lib.join (linesP A) [10]).length + 1 = (wholeP A).length := by rw [← hjl, List.length_append]; rfl
      have h3 := flat_le 16000000 (linesP A) (line_le ok few)
      rw [hlen] at h3
      have h4 : (A.nodes.length + 2) * (16000000 + 1) ≤ 30002 * 16000001 := Nat.mul_le_mul (by have := few.nl; omega) (Nat.le_refl _)
      have h5 : (wholeP A).length = ((linesP A).flatMap fun l => l ++ [10]).length := rfl
      omega)
  obtain ⟨js, hjs⟩ : ∃ js : ByteArray, js = ⟨(Lib.join (linesP A) [10]).toArray⟩ := ⟨_, rfl⟩
  rw [← hjs] at JN
  have hall : js ++ ⟨#[10]⟩ = ⟨(wholeP A).toArray⟩ := by
    refine ((str_eq _ _).2 ?_).symm
    rw [cat_data, hjs, ← hjl]
  have hsz : js.size + 1 = (wholeP A).length := by
    have h1 := congrArg ByteArray.size hall
    rw [ByteArray.size_append] at h1
    have h2 : (⟨#[10]⟩ : ByteArray).size = 1 := rfl
    have h3 : (⟨(wholeP A).toArray⟩ : ByteArray).size = (wholeP A).length := List.size_toArray
    omega
  have TX : Hid (∀ v, Below w.heap.size w v → (chk A ≠ 0 → TextV w A (.returned (.tuple #[.string ⟨#[]⟩, .int .i64 (chk A)])) v) ∧ (chk A = 0 → 20000 < js.size + 1 → TextV w A (.returned (.tuple #[.string ⟨#[]⟩, .int .i64 5])) v) ∧ (chk A = 0 → ¬ 20000 < js.size + 1 → TextV w A (.returned (.tuple #[.string (js ++ ⟨#[10]⟩), .int .i64 0])) v)) := fun v hb => by
    unfold TextV textP
    refine ⟨fun h0 => ?_, fun h0 h1 => ?_, fun h0 h1 => ?_⟩
    · rw [if_pos h0]; exact ⟨rfl, hb⟩
    · rw [if_neg (fun h => h h0), if_pos (by omega)]; exact ⟨rfl, hb⟩
    · rw [if_neg (fun h => h h0), if_neg (by omega), hall]; exact ⟨rfl, hb⟩
  have hszJ : js.size ≤ 3000000000000 := by omega
  have k1 : ¬ 9223372036854775807 < js.size + 1 := by omega
  have jI : (js.size : Int) ≤ 3000000000000 := by omega
  have hsz1 : (js ++ (⟨#[10]⟩ : ByteArray)).size = js.size + 1 := ByteArray.size_append
  generalize hc : chk A = c at CK TX
  generalize A.sets = sets at CK LN ⊢
  generalize A.init.length = ni at CK LN ⊢
  generalize A.nodes.length = nn at CK LN ⊢
  have hgl : Hid ((linesP A).length = (linesP A).length) := rfl
  generalize hln : (linesP A).length = ln at JN
  replace hln := Lib.hid hln
  obtain ⟨g, hg⟩ : ∃ g, g = w.heap.size := ⟨_, rfl⟩
  obtain ⟨w1, hw1⟩ : ∃ w1, w1 = w.alloc (.cells #[.int .i64 sets, .slice ai ni ci, .slice an nn cn] AUT) := ⟨_, rfl⟩
  have rb : RowAt w1 g AUT [.int .i64 sets, .slice ai ni ci, .slice an nn cn] := by rw [hw1]; exact RowAt.new #[.int .i64 sets, .slice ai ni ci, .slice an nn cn] hg
  have B1 : Below w.heap.size w w1 := by rw [hw1]; exact balloc (Below.refl _ _) _
  have c0 : w1.cell? ⟨g, 0, none⟩ = some (.int .i64 sets) := rb.cell 0
  have c1 : w1.cell? ⟨g, 1, none⟩ = some (.slice ai ni ci) := rb.cell 1
  have c2 : w1.cell? ⟨g, 2, none⟩ = some (.slice an nn cn) := rb.cell 2
  have C1 := Lib.hid (CK.out w1 B1)
  replace B1 := Lib.hid B1
  replace rb := Lib.hid rb
  replace hg := Lib.hid hg
  replace hw1 := Lib.hid hw1
  clear hc h ok few hwl hjl hlen hjs hall hsz hszJ hgl hd CK
  go_enter Tryd.func10, Tryd.ntmps10
  go_upto_region 1 with (fail)
  rw [← hw1.out, ← hg.out]
  go_wp2_with fail
  refine C1.out.mono ?_
  rintro e w2 ⟨rfl, hb2⟩
  have rb2 := rb.out.below hb2
  have d0 : w2.cell? ⟨g, 0, none⟩ = some (.int .i64 sets) := rb2.cell 0
  have d1 : w2.cell? ⟨g, 1, none⟩ = some (.slice ai ni ci) := rb2.cell 1
  have d2 : w2.cell? ⟨g, 2, none⟩ = some (.slice an nn cn) := rb2.cell 2
  have B2 := btrans B1.out hb2
  obtain ⟨T1, T2, T3⟩ := TX.out w2 B2
  replace rb2 := Lib.hid rb2
  clear hb2 C1 c0 c1 c2 rb
  by_cases hc : c = 0
  · subst hc
    have L2 := Lib.hid (LN.out w2 B2)
    replace B2 := Lib.hid B2
    clear T1 T2 T3 LN
    go_wp2_with fail
    refine L2.out.mono ?_
    rintro e w3 ⟨oa, oc, rfl, ow3, hb3⟩
    rw [hln.out] at ow3 ⊢
    have J3 := JN.out w3 oa oc _ ow3
    have B3 := Lib.hid (btrans B2.out hb3)
    replace J3 := Lib.hid J3
    clear L2 JN ow3 hb3 B2 d0 d1 d2
    go_wp2_with fail
    refine J3.out.mono ?_
    rintro e w4 ⟨rfl, hb4⟩
    have B4 := btrans B3.out hb4
    obtain ⟨_, T2, T3⟩ := TX.out w4 B4
    go_upto_region 5 with (fail)
    rw [← hsz1] at T2 T3
    clear hsz1 k1 jI
    generalize js ++ (⟨#[10]⟩ : ByteArray) = jt at *
    by_cases hl : 20000 < jt.size
    · have hf := Lib.hid (T2 trivial hl)
      have hlI : (20000 : Int) < (jt.size : Int) := by omega
      clear T2 T3 hb4 B4 J3 B3 TX hl
      go_wp2
      refine bodyPost_ret (v := .tuple #[.string ⟨#[]⟩, .int .i64 5]) (by simp [results, Tryd.results10]) rfl ?_
      exact hf.out
    · have hf := Lib.hid (T3 trivial hl)
      have hlI : ¬ (20000 : Int) < (jt.size : Int) := by omega
      clear T2 T3 hb4 B4 J3 B3 TX hl
      go_wp2
      refine bodyPost_ret (v := .tuple #[.string jt, .int .i64 0]) (by simp [results, Tryd.results10]) rfl ?_
      exact hf.out
  · have hcB : (c != 0) = true := by rw [bne_iff_ne]; exact hc
    have hf := Lib.hid (T1 hc)
    clear T1 T2 T3 LN JN B2 d0 d1 d2 hc TX
    go_wp2
    refine bodyPost_ret (v := .tuple #[.string ⟨#[]⟩, .int .i64 c]) (by simp [results, Tryd.results10]) rfl ?_
    exact hf.out
end Go.Proofs.YtjacphcnanopjaaDoor
