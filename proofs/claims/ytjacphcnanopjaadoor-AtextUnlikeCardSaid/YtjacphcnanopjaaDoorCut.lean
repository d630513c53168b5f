/- A slice of numbers cut from a place on, or up to one: its value under a name of its own. No conditions but the bounds. -/
import Derived.Test.YtjacphcnanopjaaDoorBase
namespace Go.Proofs.YtjacphcnanopjaaDoor
open Go.RowKit

/-- where a cut begins -/
def cutA (a : Option Addr) (cap l sz : Nat) : Option Addr := if cap = l then a else a.map (·.add (l * sz))

section
variable {P : Program} {t e : TypeId}
theorem run_cut_l (ht : P.underlying t = some (.slice e)) {sz : Nat} (hs : ∀ w, (sizeOf e).run P w = .ok sz w) (a : Option Addr) (len cap l : Nat) {kl : IntKind} {L : Int} (hL : L = (l : Int)) (h : l ≤ len) (w : World) :
    (Instr.slice t (.slice a len cap) (some (.int kl L)) none none).run P w = .ok (.slice (cutA a cap l sz) (len - l) (cap - l)) w := by
  subst hL
  have he : P.elem t = e := by simp [Program.elem, ht]
  rw [run_slice_l (ht := by rw [he]; exact ht) (h0 := by omega) (h1 := by omega), he, hs]
  simp [Result.andThen, sliced, cutA]
theorem run_cut_lh (ht : P.underlying t = some (.slice e)) {sz : Nat} (hs : ∀ w, (sizeOf e).run P w = .ok sz w) (a : Option Addr) (len cap l h : Nat) {kl kh : IntKind} {L H : Int} (hL : L = (l : Int)) (hH : H = (h : Int)) (h1 : l ≤ h) (h2 : h ≤ cap) (w : World) :
    (Instr.slice t (.slice a len cap) (some (.int kl L)) (some (.int kh H)) none).run P w = .ok (.slice (cutA a cap l sz) (h - l) (cap - l)) w := by
  subst hL hH
  have he : P.elem t = e := by simp [Program.elem, ht]
  rw [run_slice_lh (ht := by rw [he]; exact ht) (h0 := by omega) (h1 := by omega) (h2 := by omega), he, hs]
  simp [Result.andThen, sliced, cutA]
theorem run_cut_h (ht : P.underlying t = some (.slice e)) {sz : Nat} (hs : ∀ w, (sizeOf e).run P w = .ok sz w) (a : Option Addr) (len cap h : Nat) {kh : IntKind} {H : Int} (hH : H = (h : Int)) (h2 : h ≤ cap) (w : World) :
    (Instr.slice t (.slice a len cap) none (some (.int kh H)) none).run P w = .ok (.slice a h cap) w := by
  subst hH
  have he : P.elem t = e := by simp [Program.elem, ht]
  rw [run_slice_h (ht := by rw [he]; exact ht) (h0 := by omega) (h2 := by omega), he, hs]
  simp [Result.andThen, sliced]
  intro _
  cases a <;> simp [Addr.add]
end
theorem cutA_at {b off cap l : Nat} (h : l < cap) : cutA (some ⟨b, off, none⟩) cap l 1 = some ⟨b, off + l, none⟩ := by
  unfold cutA
  rw [if_neg (by omega)]
  simp [add_off]
theorem NumsAt.cut {k : IntKind} {w : World} {a : Option Addr} {xs : List Int} (h : NumsAt k w a xs) {l cap : Nat} (hc : xs.length ≤ cap) : NumsAt k w (cutA a cap l 1) (xs.drop l) := by
  intro h0
  rw [List.length_drop] at h0
  obtain ⟨b, off, rfl, hcell⟩ := h (by omega)
  rw [cutA_at (by omega)]
  refine ⟨b, off + l, rfl, fun i hi => ?_⟩
  rw [List.length_drop] at hi
  rw [Nat.add_assoc, hcell (l + i) (by omega)]
  simp [List.getD]
theorem NumsAt.upto {k : IntKind} {w : World} {a : Option Addr} {xs : List Int} (h : NumsAt k w a xs) (m : Nat) : NumsAt k w a (xs.take m) := by
  intro h0
  rw [List.length_take] at h0
  obtain ⟨b, off, rfl, hcell⟩ := h (by omega)
  refine ⟨b, off, rfl, fun i hi => ?_⟩
  rw [List.length_take] at hi
  rw [hcell i (by omega)]
  congr 2
  simp [List.getD, show i < m by omega]
theorem Tryd.sizeInt (w : World) : (sizeOf 3).run Tryd.prog w = .ok 1 w := by kernel_rfl
end Go.Proofs.YtjacphcnanopjaaDoor
