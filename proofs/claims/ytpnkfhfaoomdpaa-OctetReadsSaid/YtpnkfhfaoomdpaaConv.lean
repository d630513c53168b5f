/- Texts of bytes and bytes of texts. Conditions: bytes. -/
import Derived.Test.YtpnkfhfaoomdpaaApp2
import Derived.Lib.ConvBytes
import Derived.Laws.BytesArg
namespace Go.Proofs.Ytpnkfhfaoomdpaa
open Go.RowKit

theorem conv_below (w : World) (e : TypeId) (s : ByteArray) : Below w.heap.size w (Lib.bytesWorld w e s) where
  os := by simp [Lib.bytesWorld, World.freeze, World.alloc, World.drew, -World.alloc_eq, -World.drew_eq]
  tape := by simp [Lib.bytesWorld, World.freeze, World.alloc, World.drew, -World.alloc_eq, -World.drew_eq]
  output := by simp [Lib.bytesWorld, World.freeze, World.alloc, World.drew, -World.alloc_eq, -World.drew_eq]
  size := by rw [Lib.bytesWorld_size]; omega
  block := fun k hk => Lib.bytesWorld_at_old w e s k hk
theorem conv_nums (w : World) (e : TypeId) (s : ByteArray) : NumsAt .u8 (Lib.bytesWorld w e s) (some ⟨w.heap.size, 0, none⟩) (txt s) := by
  intro _
  refine ⟨w.heap.size, 0, rfl, fun i hi => ?_⟩
  rw [txt_len] at hi
  rw [Nat.zero_add, Lib.bytesWorld_cell w e s i hi]
  have h2 : i < s.data.toList.length := by rw [Array.length_toList]; exact hi
  rw [txt, List.getD_eq_getElem?_getD, List.getD_eq_getElem?_getD, List.getElem?_map, List.getElem?_eq_getElem h2]
  rfl
theorem conv_run {P : Program} {w : World} {src dst e : TypeId} {a : Option Addr} {len cap : Nat} {xs : List Int} (hs : P.underlying src = some (.slice e)) (he : P.underlying e = some (.int .u8)) (hd : P.underlying dst = some .string) (h : NumsAt .u8 w a xs) (hl : len = xs.length) :
    (convert src dst (.slice a len cap)).run P w = .ok (.string (strOfNums xs)) w := by
  by_cases h0 : 0 < xs.length
  · obtain ⟨b, off, rfl, hc⟩ := h h0
    exact run_convert_bytes_arg w src e hs he b off len cap xs hl.symm (fun i hi => hc i (by omega)) dst hd
  · have hx : xs = [] := List.eq_nil_of_length_eq_zero (by omega)
    subst hx
    subst hl
    cases a with
    | none => exact run_convert_bytes_nil w src e hs he 0 cap dst hd
    | some ad =>
      show (convert src dst (.slice (some ad) 0 cap)).run P w = _
      rw [run_convert_bytes_string w src dst e _ 0 cap hs he hd, run_bytesToString w _ 0 cap [] (by simp [loadCells, loadCellsFrom])]
      rfl
theorem txt_str {xs : List Int} (h : ∀ x ∈ xs, 0 ≤ x ∧ x ≤ 255) : txt (strOfNums xs) = xs := by
  simp only [txt, strOfNums]
  rw [List.map_map]
  conv => rhs; rw [← List.map_id xs]
  refine List.map_congr_left fun x hx => ?_
  have := h x hx
  simp
  omega
theorem str_size (xs : List Int) : (strOfNums xs).size = xs.length := by
  rw [← txt_len]; simp [txt, strOfNums]
end Go.Proofs.Ytpnkfhfaoomdpaa
