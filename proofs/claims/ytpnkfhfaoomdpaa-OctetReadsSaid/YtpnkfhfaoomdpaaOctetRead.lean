/- A reader's many, Text, List, Left, Err over its Num. Conditions: bytes. -/
import Derived.Test.YtpnkfhfaoomdpaaOctetNum
namespace Go.Proofs.Ytpnkfhfaoomdpaa
open Go.RowKit

namespace Octet
/-- what Num makes of a reader: the place, the fault, the number -/
def rNum (bs : List Int) (p : Nat) (e : Int) : Nat × Int × Int :=
  if e ≠ 0 then (p, e, 0)
  else if err (bs.drop p) ≠ 0 then (p, err (bs.drop p), 0)
  else (p + lead (bs.drop p) + 1, 0, sgn (val ((bs.drop p).take (lead (bs.drop p) + 1))))
theorem rNum_le (bs : List Int) (p : Nat) (e : Int) (hp : p ≤ bs.length) : (rNum bs p e).1 ≤ bs.length := by
  unfold rNum
  by_cases he : e ≠ 0
  · rw [if_pos he]; exact hp
  · rw [if_neg he]
    by_cases h : err (bs.drop p) ≠ 0
    · rw [if_pos h]; exact hp
    · rw [if_neg h]
      have h1 := lead_le (bs.drop p)
      rw [List.length_drop] at h1
      have h2 : lead (bs.drop p) ≠ bs.length - p := fun e => by
        apply h
        intro h0
        unfold err at h0
        rw [List.length_drop] at h0
        by_cases h10 : 10 ≤ lead (bs.drop p)
        · rw [if_pos h10] at h0; cases h0
        · rw [if_neg h10, if_pos e] at h0; cases h0
      show p + lead (bs.drop p) + 1 ≤ bs.length
      omega
end Octet

/-- a reader and its bytes -/
structure RD (w : World) (g : Nat) (a : Option Addr) (cap : Nat) (bs : List Int) (p : Nat) (e : Int) : Prop where
  rdr : Rdr w g a bs.length cap p e
  nums : NumsAt .u8 w a bs
  ne : ∀ ad : Addr, a = some ad → ad.block ≠ g
  hp : p ≤ bs.length
  hc : bs.length ≤ cap
  hb : bs.length ≤ 10000
  hx : ∀ x ∈ bs, 0 ≤ x ∧ x ≤ 255
theorem NumsAt.grownR {k : IntKind} {w w' : World} {a : Option Addr} {xs : List Int} {g : Nat} (h : NumsAt k w a xs) (hg : w.grownBy w' (some g)) (hne : ∀ ad : Addr, a = some ad → ad.block ≠ g) : NumsAt k w' a xs :=
  h.keep (fun ad had hlt => hg.block _ hlt (fun e => hne ad had (by cases e; rfl)))
theorem RD.next {w w' : World} {g : Nat} {a : Option Addr} {cap : Nat} {bs : List Int} {p p' : Nat} {e e' : Int} (h : RD w g a cap bs p e) (hg : w.grownBy w' (some g)) (hr : Rdr w' g a bs.length cap p' e') (hp : p' ≤ bs.length) : RD w' g a cap bs p' e' :=
  ⟨hr, h.nums.grownR hg h.ne, h.ne, hp, h.hc, h.hb, h.hx⟩
theorem RD.below {w w' : World} {g : Nat} {a : Option Addr} {cap : Nat} {bs : List Int} {p : Nat} {e : Int} (h : RD w g a cap bs p e) (hb : Below w.heap.size w w') : RD w' g a cap bs p e :=
  ⟨h.rdr.below hb, h.nums.below hb, h.ne, h.hp, h.hc, h.hb, h.hx⟩
theorem RD.drewN {w : World} {g : Nat} {a : Option Addr} {cap : Nat} {bs : List Int} {p : Nat} {e : Int} (h : RD w g a cap bs p e) (n : Nat) : RD (w.drewN n) g a cap bs p e :=
  ⟨h.rdr.drewN n, h.nums.drewN n, h.ne, h.hp, h.hc, h.hb, h.hx⟩

theorem num_fn (w : World) (g : Nat) (a : Option Addr) (cap : Nat) (bs : List Int) (p : Nat) (e : Int) (h : RD w g a cap bs p e) :
    Calls Try.prog 21 #[.pointer (some ⟨g, 0, none⟩)] w fun r w' => w.grownBy w' (some g) ∧ r = .returned (.int .i64 (Octet.rNum bs p e).2.2) ∧ RD w' g a cap bs (Octet.rNum bs p e).1 (Octet.rNum bs p e).2.1 := by
  by_cases he : e = 0
  · subst he
    refine (num_any w g a cap bs p h.rdr h.nums h.ne h.hp h.hc h.hb h.hx).mono ?_
    rintro r w' ⟨hg, H⟩
    refine ⟨hg, ?_⟩
    have hle := Octet.rNum_le bs p 0 h.hp
    unfold Octet.rNum at hle ⊢
    rw [if_neg (by simp)] at hle ⊢
    rcases H with ⟨h1, h2, h3⟩ | ⟨h1, h2, h3⟩
    · rw [if_pos h1] at hle ⊢
      exact ⟨h2, h.next hg h3 h.hp⟩
    · rw [if_neg (by simp [h1])] at hle ⊢
      exact ⟨h2, h.next hg h3 hle⟩
  · have hr : Hid (Octet.rNum bs p e = (p, e, 0)) := by unfold Hid Octet.rNum; rw [if_pos he]
    have he' : (e != 0) = true := by simpa using he
    have NN := Lib.hid (none_any w g a bs.length cap p e h.rdr)
    rw [hr.out]
    clear hr
    go_enter Try.func21, Try.ntmps21
    go_wp2_with fail
    refine NN.out.mono ?_
    rintro e w9 ⟨rfl, rfl⟩
    go_wp2
    go_ret
    exact ⟨⟨rfl, rfl, rfl, Nat.le_refl _, fun _ _ _ => rfl⟩, rfl, h⟩

theorem left_any (w : World) (g : Nat) (a : Option Addr) (cap : Nat) (bs : List Int) (p : Nat) (e : Int) (h : RD w g a cap bs p e) :
    Calls Try.prog 38 #[.pointer (some ⟨g, 0, none⟩)] w fun r w' => r = .returned (.int .i64 ((bs.length : Int) - (p : Int))) ∧ Quiet w w' := by
  have c0 := h.rdr.c0
  have c1 := h.rdr.c1
  have hp := h.hp
  have hb := h.hb
  have hw : IntKind.i64.wrap ((bs.length : Int) - (p : Int)) = (bs.length : Int) - (p : Int) := IntWalk.i64_in _ (by omega)
  clear h
  go_enter Try.func38, Try.ntmps38
  go_wp2
  go_quiet (fail)
  go_wp2
  go_ret
  exact ⟨rfl, Quiet.one _ _⟩

theorem Left_any (w : World) (g : Nat) (a : Option Addr) (cap : Nat) (bs : List Int) (p : Nat) (e : Int) (h : RD w g a cap bs p e) :
    Calls Try.prog 27 #[.pointer (some ⟨g, 0, none⟩)] w fun r w' => r = .returned (.int .i64 ((bs.length : Int) - (p : Int))) ∧ Quiet w w' := by
  have c3 := h.rdr.c3
  have L := Lib.hid (left_any w g a cap bs p e h)
  clear h
  go_enter Try.func27, Try.ntmps27
  go_wp2_with fail
  refine L.out.mono ?_
  rintro r w9 ⟨rfl, n, rfl⟩
  go_wp2
  go_ret
  exact ⟨rfl, Quiet.one _ _⟩
end Go.Proofs.Ytpnkfhfaoomdpaa
