/- Lists and texts that were put are read: plain. Conditions: numbers of Go's int. -/
import Derived.Test.YtpnkfhfaoomdpaaOctetBackPlain
namespace Go.Proofs.Ytpnkfhfaoomdpaa.Octet

theorem rMany_one {c : Int} (h0 : 0 ≤ c) (pre rest : List Int) (hc : c ≤ rest.length) (hc2 : c ≤ 9223372036854775807) (f : Nat) : rMany (pre ++ (one c ++ rest)) pre.length f = (pre.length + (one c).length, 0, c) := by
  unfold rMany
  rw [rNum_one ⟨by omega, hc2⟩]
  rw [if_neg (by simp), if_neg (by simp; omega), if_neg]
  simp only [List.length_append]
  omega
theorem ones_cons (x : Int) (l : List Int) : ones (x :: l) = one x ++ ones l := by simp [ones]
theorem ones_ge : ∀ l : List Int, l.length ≤ (ones l).length
  | [] => Nat.zero_le _
  | x :: l => by
    have := ones_ge l
    have := one_pos x
    rw [ones_cons, List.length_append, List.length_cons]
    omega
theorem rTake_ones : ∀ (l pre rest out : List Int), (∀ x ∈ l, -9223372036854775808 ≤ x ∧ x ≤ 9223372036854775807) →
    rTake (pre ++ (ones l ++ rest)) l.length (pre.length, 0, out) = (pre.length + (ones l).length, 0, out ++ l)
  | [], pre, rest, out, _ => by simp [rTake, ones]
  | x :: l, pre, rest, out, h => by
    have hx := h x (by simp)
    have ih := rTake_ones l (pre ++ one x) rest (out ++ [x]) (fun y hy => h y (by simp [hy]))
    rw [ones_cons]
    rw [show pre ++ (one x ++ ones l ++ rest) = pre ++ (one x ++ (ones l ++ rest)) by simp]
    show rTake _ (l.length + 1) _ = _
    unfold rTake
    simp only
    rw [rNum_one hx]
    simp only
    rw [show pre ++ (one x ++ (ones l ++ rest)) = pre ++ one x ++ (ones l ++ rest) by simp]
    rw [show pre.length + (one x).length = (pre ++ one x).length by simp, ih]
    simp [Nat.add_assoc]
theorem rList_put {l : List Int} (h : ∀ x ∈ l, -9223372036854775808 ≤ x ∧ x ≤ 9223372036854775807) (hl : l.length ≤ 1000) (pre rest : List Int) :
    rList (pre ++ (one l.length ++ (ones l ++ rest))) pre.length 0 = (pre.length + (one l.length).length + (ones l).length, 0, l) := by
  have h1 := ones_ge l
  have h2 := rMany_one (c := (l.length : Int)) (by omega) pre (ones l ++ rest) (by rw [List.length_append]; omega) (by omega) pre.length
  unfold rList
  rw [h2]
  simp only [Int.toNat_natCast]
  have h3 := rTake_ones l (pre ++ one l.length) rest [] h
  rw [List.append_assoc, List.length_append] at h3
  rw [h3, if_neg (by simp), if_neg (by simp)]
  simp
theorem rText_put (t pre rest : List Int) (hl : t.length ≤ 1000) :
    rText (pre ++ (one t.length ++ (t ++ rest))) pre.length 0 = (pre.length + (one t.length).length + t.length, 0, t) := by
  have h2 := rMany_one (c := (t.length : Int)) (by omega) pre (t ++ rest) (by rw [List.length_append]; omega) (by omega) pre.length
  unfold rText
  rw [h2, if_neg (by simp), if_neg (by simp)]
  simp only [Int.toNat_natCast]
  rw [show pre ++ (one t.length ++ (t ++ rest)) = (pre ++ one t.length) ++ (t ++ rest) by simp, show pre.length + (one (t.length : Int)).length = (pre ++ one t.length).length by simp, List.drop_left, List.take_left]
end Go.Proofs.Ytpnkfhfaoomdpaa.Octet
