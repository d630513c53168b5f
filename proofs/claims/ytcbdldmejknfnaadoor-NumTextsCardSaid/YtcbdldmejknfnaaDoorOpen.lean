/- How the arguments of a law are opened: what is read as data reads, cell by cell, as plain Lean values. No conditions. -/
import Derived.Test.YtcbdldmejknfnaaDoorLib
import Derived.Deep.Slices
import Derived.Deep.Strs
import Derived.Lib.SmallJoins
import Derived.SizedLaws
namespace Go.Proofs.YtcbdldmejknfnaaDoor
open Go.RowKit Go.ChangeShapes Go.WideShapes Go.ChangeAt Go.Deep

/-- how a row of cells reads as a plain value -/
abbrev Rd (α : Type) := World → List Value → α → Prop

def rInt (k : IntKind) : Rd Int := fun _ cs n => cs = [.int k n] ∧ (Lit.int k n).wf = true
def rBool : Rd Bool := fun _ cs b => cs = [.bool b]
def rStr : Rd ByteArray := fun _ cs s => cs = [.string s] ∧ s.size ≤ reachBytes
/-- a slice whose elements are 'sz' cells, of 'by_' bytes each -/
def rSl {α : Type} (sz by_ : Nat) (R : Rd α) : Rd (List α) := fun w cs xs =>
  ∃ a cap, cs = [.slice a xs.length cap] ∧ xs.length * by_ ≤ reachBytes ∧ xs.length ≤ cap ∧ cap ≤ maxLen ∧
    (0 < xs.length → ∃ b off, a = some ⟨b, off, none⟩ ∧ ∀ i (hi : i < xs.length), ∃ vs, vs.length = sz ∧ (∀ j, j < sz → w.cell? ⟨b, off + i * sz + j, none⟩ = vs[j]?) ∧ R w vs xs[i])

/-- what reads as data of type T reads so -/
def Opens {α : Type} (P : Program) (T : TypeId) (R : Rd α) : Prop :=
  ∀ (H : Type) (enc : TypeId × Value → H) (w : World) (fuel : Nat) (cs : List Value) (d : DataW H) (ps : List MemPlace),
    DataW.trod enc P w 0 (fun _ => true) true fuel T cs = some (d, ps) → (d.weights P T).all (· ≤ reachBytes) = true → ∃ x, R w cs x

theorem opens_int {P : Program} {T : TypeId} {k : IntKind} (h : P.underlying T = some (.int k)) : Opens P T (rInt k) := by
  intro H enc w fuel cs d ps hd _
  obtain ⟨n, h, hx, hw⟩ := DataW.trod_int h hd
  exact ⟨n, h, hw⟩
theorem opens_bool {P : Program} {T : TypeId} (h : P.underlying T = some .bool) : Opens P T rBool := by
  intro H enc w fuel cs d ps hd _
  obtain ⟨b, h, hx⟩ := DataW.trod_bool h hd
  exact ⟨b, h⟩
theorem opens_str {P : Program} {T : TypeId} (h : P.underlying T = some .string) : Opens P T rStr := by
  intro H enc w fuel cs d ps hd hwt
  obtain ⟨s, h1, hx, hs⟩ := DataW.trod_string h hd
  refine ⟨s, h1, ?_⟩
  simp at hx
  rw [hx.1] at hwt
  simp [DataW.weights] at hwt
  exact hwt

theorem weightsAll_mem {H : Type} {P : Program} {e : TypeId} {d : DataW H} : ∀ {l : List (DataW H)}, d ∈ l → ∀ n ∈ d.weights P e, n ∈ DataW.weightsAll P e l
  | x :: r, hd, n, hn => by
    simp only [DataW.weightsAll, List.mem_append]
    rcases List.mem_cons.1 hd with rfl | h
    · exact .inl hn
    · exact .inr (weightsAll_mem h n hn)

theorem weights_at {H : Type} {P : Program} {ts : List TypeId} {ds : List (DataW H)} (h : (DataW.weightsEach P ts ds).all (· ≤ reachBytes) = true) {j : Nat} {t : TypeId} {d : DataW H} (ht : ts[j]? = some t) (hd : ds[j]? = some d) :
    (d.weights P t).all (· ≤ reachBytes) = true :=
  List.all_eq_true.2 fun n hn => List.all_eq_true.1 h n (DataW.weights_mem_each ht hd n hn)

theorem choose_list {α : Type} {n : Nat} {p : Nat → α → Prop} (h : ∀ i, i < n → ∃ x, p i x) : ∃ l : List α, l.length = n ∧ ∀ i (hi : i < l.length), p i l[i] := by
  induction n with
  | zero => exact ⟨[], rfl, fun i hi => by simp at hi⟩
  | succ n ih =>
    obtain ⟨l, hl, hp⟩ := ih (fun i hi => h i (by omega))
    obtain ⟨x, hx⟩ := h n (by omega)
    refine ⟨l ++ [x], by simp [hl], fun i hi => ?_⟩
    by_cases hn : i < n
    · rw [List.getElem_append_left (by omega)]; exact hp i (by omega)
    · have e : i = n := by simp at hi; omega
      subst e
      rw [List.getElem_append_right (by omega)]
      simpa [hl] using hx

theorem add_off (b off k : Nat) : (⟨b, off, none⟩ : Addr).add k = ⟨b, off + k, none⟩ := by
  unfold Addr.add; split <;> simp_all

theorem opens_slice {α : Type} {P : Program} {T E : TypeId} {sz by_ : Nat} {R : Rd α} (hT : P.underlying T = some (.slice E)) (hc : P.cellsOf E = sz) (hby : P.bytesOf E = by_) (hsz : 0 < sz) (hE : Opens P E R) : Opens P T (rSl sz by_ R) := by
  intro H enc w fuel cs d ps hd hwt
  rcases open_slice hT hd with ⟨rfl, h⟩ | ⟨a, len, cap, m, n, D, Pl, rfl, _, hl, hm, hmm, hx, hel⟩
  · exact ⟨[], none, 0, rfl, by simp [reachBytes], Nat.le_refl _, Nat.zero_le _, fun h => by simp at h⟩
  · simp only [if_true] at hmm
    subst hmm
    simp only [Prod.mk.injEq] at hx
    obtain ⟨rfl, _⟩ := hx
    rw [List.all_eq_true] at hwt
    have hone : ∀ i, i < len → ∃ x : α, ∃ vs, vs.length = sz ∧ (∀ j, j < sz → w.cell? ((a.add (i * sz)).add j) = vs[j]?) ∧ R w vs x := by
      intro i hi
      obtain ⟨cs', h1, h2⟩ := hel i (by omega)
      rw [hc] at h1
      obtain ⟨_, h3, h4⟩ := World.cells?_some h1
      obtain ⟨x, hx⟩ := hE H enc w n cs' (D i) (Pl i) h2 (List.all_eq_true.2 fun k hk => hwt k (by
        simp only [DataW.weights, hT, List.mem_cons, List.mem_append]
        exact .inr (.inl (weightsAll_mem (List.mem_map.2 ⟨i, List.mem_range.2 hi, rfl⟩) k hk))))
      exact ⟨x, cs', h3, h4, hx⟩
    obtain ⟨xs, hxl, hxs⟩ := choose_list hone
    have hr := hwt ((len + (m - len)) * by_) (by simp [DataW.weights, hT, hby])
    simp only [decide_eq_true_eq] at hr
    have hr2 : xs.length * by_ ≤ reachBytes := Nat.le_trans (Nat.mul_le_mul_right _ (by omega)) hr
    refine ⟨xs, some a, m, by rw [hxl], hr2, by omega, hm, fun h0 => ?_⟩
    obtain ⟨b, off, spot⟩ := a
    obtain ⟨vs, hvl, hv, _⟩ := hxs 0 h0
    have h00 := hv 0 hsz
    rw [List.getElem?_eq_getElem (by omega)] at h00
    have hspot : spot = none := by simpa [Addr.add] using World.cell?_spot h00
    subst hspot
    refine ⟨b, off, rfl, fun i hi => ?_⟩
    obtain ⟨vs, h1, h2, h3⟩ := hxs i hi
    refine ⟨vs, h1, fun j hj => ?_, h3⟩
    rw [← h2 j hj, add_off, add_off]

theorem cells_slice (a : Option Addr) (n c : Nat) : (Value.slice a n c).cells.toList = [.slice a n c] := rfl
theorem cells_string (s : ByteArray) : (Value.string s).cells.toList = [.string s] := rfl

/-- an argument that is a slice -/
theorem open_arg_slice {α H : Type} {enc : TypeId × Value → H} {P : Program} {W : World} {T E : TypeId} {r : Reach} {base : Nat} {R : Rd α} {v : Value} {d : DataW H} {p : List MemPlace} (hT : P.underlying T = some (.slice E)) (O : Opens P T R) (hv : Value.okWide P W r base T v)
    (h : DataW.Trod enc P W 0 (fun _ => true) true T v d p) (hw : (d.weights P T).all (· ≤ reachBytes) = true) : ∃ x, R W [v] x := by
  obtain ⟨a, n, c, rfl⟩ := okWide_slice hT hv
  obtain ⟨fuel, hf⟩ := h
  exact O H enc W fuel _ d p hf hw
/-- an argument that is a text -/
theorem open_arg_str {H : Type} {enc : TypeId × Value → H} {P : Program} {W : World} {T : TypeId} {r : Reach} {base : Nat} {v : Value} {d : DataW H} {p : List MemPlace} (hT : P.underlying T = some .string) (hv : Value.okWide P W r base T v)
    (h : DataW.Trod enc P W 0 (fun _ => true) true T v d p) (hw : (d.weights P T).all (· ≤ reachBytes) = true) : ∃ s, v = .string s ∧ s.size ≤ reachBytes := by
  obtain ⟨s, rfl⟩ := okWide_string hT hv
  obtain ⟨fuel, hf⟩ := h
  obtain ⟨x, h1, h2⟩ := opens_str hT H enc W fuel _ d p hf hw
  rw [cells_string] at h1
  simp at h1
  exact ⟨s, rfl, h1 ▸ h2⟩

theorem IntsAt.of_rSl {w : World} {cs : List Value} {xs : List Int} (h : rSl 1 8 (rInt .i64) w cs xs) : ∃ a cap, cs = [.slice a xs.length cap] ∧ xs.length * 8 ≤ 140737488351232 ∧ xs.length ≤ cap ∧ IntsAt w a xs ∧ ∀ x ∈ xs, -9223372036854775808 ≤ x ∧ x ≤ 9223372036854775807 := by
  obtain ⟨a, cap, h1, h2, h3, h4, h5⟩ := h
  refine ⟨a, cap, h1, h2, h3, fun h0 => ?_, fun x hx => ?_⟩
  · obtain ⟨b, off, ha, hc⟩ := h5 h0
    refine ⟨b, off, ha, fun i hi => ?_⟩
    obtain ⟨vs, _, hv, hr, _⟩ := hc i hi
    have := hv 0 (by omega)
    rw [hr] at this
    simpa [List.getD, List.getElem?_eq_getElem hi] using this
  · obtain ⟨i, hi, rfl⟩ := List.mem_iff_getElem.1 hx
    obtain ⟨b, off, ha, hc⟩ := h5 (by omega)
    obtain ⟨vs, _, hv, _, hw⟩ := hc i hi
    simpa [Lit.wf, IntKind.min, IntKind.max, IntKind.signed, IntKind.bits] using hw
theorem range_i64 {n : Int} (h : (Lit.int .i64 n).wf = true) : -9223372036854775808 ≤ n ∧ n ≤ 9223372036854775807 := by
  simpa [Lit.wf, IntKind.min, IntKind.max, IntKind.signed, IntKind.bits] using h
end Go.Proofs.YtcbdldmejknfnaaDoor
