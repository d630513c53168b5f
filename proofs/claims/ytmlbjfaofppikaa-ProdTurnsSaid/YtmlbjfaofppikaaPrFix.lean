/- The source of a graph: its methods. Conditions: the bounds of an argument. -/
import Derived.Test.YtmlbjfaofppikaaPrPlain
import Derived.Test.YtmlbjfaofppikaaPrClone
namespace Go.Proofs.Ytmlbjfaofppikaa
open Go.RowKit

abbrev TF : Nat := 81
structure FxA (w : World) (f : Nat) (ai ae al an : Option Addr) (ci ce cl cn : Nat) (G : GR) (inb : List Nat) (ns : Nat) : Prop where
  row : RowAt w f TF [.slice ai G.init.length ci, .slice ae G.edges.length ce, .slice al G.labels.length cl, .slice an inb.length cn, .int .i64 ns]
  g : GAt w ai ae al G
  inn : NumsAt .u64 w an (natI inb)
  ll : G.labels.length = G.edges.length
  il : inb.length = G.edges.length
/-- a source that Graph made -/
def FxAt (w : World) (f : Nat) (G : GR) (inb : List Nat) (ns : Nat) : Prop := ∃ ai ae al an ci ce cl cn, FxA w f ai ae al an ci ce cl cn G inb ns
theorem FxA.below {w w' : World} {f : Nat} {ai ae al an : Option Addr} {ci ce cl cn : Nat} {G : GR} {inb : List Nat} {ns : Nat} (h : FxA w f ai ae al an ci ce cl cn G inb ns) (hb : Below w.heap.size w w') : FxA w' f ai ae al an ci ce cl cn G inb ns :=
  ⟨h.row.below hb, h.g.below hb, h.inn.below hb, h.ll, h.il⟩
theorem FxAt.below {w w' : World} {f : Nat} {G : GR} {inb : List Nat} {ns : Nat} (h : FxAt w f G inb ns) (hb : Below w.heap.size w w') : FxAt w' f G inb ns := by
  obtain ⟨_, _, _, _, _, _, _, _, h⟩ := h
  exact ⟨_, _, _, _, _, _, _, _, h.below hb⟩
theorem inG_no {n : Nat} {x : Int} (h : x < 0) : inG n x = false := by unfold inG; rw [decide_eq_false (by omega)]; rfl
theorem inG_yes {n : Nat} {x : Int} (h : 0 ≤ x) : inG n x = decide (x < (n : Int)) := by unfold inG; rw [decide_eq_true h]; rfl
theorem fis_any (w : World) (f : Nat) (G : GR) (inb : List Nat) (ns : Nat) (h : FxAt w f G inb ns) (x : Int) : Calls Try.prog 82 #[.pointer (some ⟨f, 0, none⟩), .int .i64 x] w fun e w' => e = .returned (.bool (inG G.edges.length x)) ∧ w = w' := by
  obtain ⟨ai, ae, al, an, ci, ce, cl, cn, h⟩ := h
  have c1 : w.cell? ⟨f, 1, none⟩ = some (.slice ae G.edges.length ce) := h.row.cell 1
  generalize G.edges.length = n at c1 ⊢
  clear h
  by_cases h0 : x < 0
  · have h0' : decide (0 ≤ x) = false := by simpa using h0
    have hr := Lib.hid (inG_no (n := n) h0)
    rw [hr.out]
    go_enter Try.func82, Try.ntmps82
    go_wp2
    go_ret
    exact ⟨rfl, rfl⟩
  · have h0' : decide (0 ≤ x) = true := by simpa using h0
    have hr := Lib.hid (inG_yes (n := n) (x := x) (by omega))
    rw [hr.out]
    go_enter Try.func82, Try.ntmps82
    go_wp2
    go_ret
    exact ⟨rfl, rfl⟩
theorem flabel_any (w : World) (f : Nat) (G : GR) (inb : List Nat) (ns : Nat) (h : FxAt w f G inb ns) (x : Int) : Calls Try.prog 80 #[.pointer (some ⟨f, 0, none⟩), .int .i64 x] w fun e w' => e = .returned (.int .u64 (labP G x)) ∧ w = w' := by
  have I := fis_any w f G inb ns h x
  obtain ⟨ai, ae, al, an, ci, ce, cl, cn, h⟩ := h
  have c2 : w.cell? ⟨f, 2, none⟩ = some (.slice al G.labels.length cl) := h.row.cell 2
  cases hx : inG G.edges.length x with
  | false =>
    rw [hx] at I
    replace I := Lib.hid I
    have hr : Hid (labP G x = 0) := by show _ = _; unfold labP; rw [hx]; rfl
    rw [hr.out]
    clear h hx
    go_enter Try.func80, Try.ntmps80
    go_wp2_with fail
    refine I.out.mono ?_
    rintro e w1 ⟨rfl, rfl⟩
    go_wp2
    go_ret
    exact ⟨rfl, rfl⟩
  | true =>
    rw [hx] at I
    replace I := Lib.hid I
    have hxx : 0 ≤ x ∧ x < (G.labels.length : Int) := by
      unfold inG at hx
      simp at hx
      rw [h.ll]
      exact hx
    obtain ⟨k, rfl⟩ := Int.eq_ofNat_of_zero_le hxx.1
    have hr : Hid (((labP G k : Nat) : Int) = (natI G.labels).getD k 0) := by show _ = _; unfold labP; rw [hx, natI_at]; rfl
    obtain ⟨nl, hnl⟩ : ∃ nl, nl = G.labels.length := ⟨_, rfl⟩
    have hk : k < nl := by omega
    obtain ⟨b, off, y, rfl, cy, hy⟩ := h.g.labels.at k (by rw [natI_len]; omega)
    have hr2 : Hid (((labP G k : Nat) : Int) = y) := by show _ = _; rw [hr.out, hy.out]
    rw [hr2.out]
    rw [← hnl] at c2
    clear h hx hxx hy hnl hr
    go_enter Try.func80, Try.ntmps80
    go_wp2_with fail
    refine I.out.mono ?_
    rintro e w1 ⟨rfl, rfl⟩
    go_wp2
    go_ret
    exact ⟨rfl, rfl⟩
/-- of which sets a node is, by the rows of a source -/
theorem fin_any (w : World) (f : Nat) (G : GR) (inb : List Nat) (ns : Nat) (h : FxAt w f G inb ns) (x : Int) : Calls Try.prog 79 #[.pointer (some ⟨f, 0, none⟩), .int .i64 x] w fun e w' => e = .returned (.int .u64 ((if inG G.edges.length x then inb.getD x.toNat 0 else 0 : Nat) : Int)) ∧ w = w' := by
  have I := fis_any w f G inb ns h x
  obtain ⟨ai, ae, al, an, ci, ce, cl, cn, h⟩ := h
  have c3 : w.cell? ⟨f, 3, none⟩ = some (.slice an inb.length cn) := h.row.cell 3
  cases hx : inG G.edges.length x with
  | false =>
    rw [hx] at I
    replace I := Lib.hid I
    rw [show ((if false = true then inb.getD x.toNat 0 else 0 : Nat) : Int) = 0 from rfl]
    clear h hx
    go_enter Try.func79, Try.ntmps79
    go_wp2_with fail
    refine I.out.mono ?_
    rintro e w1 ⟨rfl, rfl⟩
    go_wp2
    go_ret
    exact ⟨rfl, rfl⟩
  | true =>
    rw [hx] at I
    replace I := Lib.hid I
    have hxx : 0 ≤ x ∧ x < (inb.length : Int) := by
      unfold inG at hx
      simp at hx
      rw [h.il]
      exact hx
    obtain ⟨k, rfl⟩ := Int.eq_ofNat_of_zero_le hxx.1
    obtain ⟨nl, hnl⟩ : ∃ nl, nl = inb.length := ⟨_, rfl⟩
    have hk : k < nl := by omega
    obtain ⟨b, off, y, rfl, cy, hy⟩ := h.inn.at k (by rw [natI_len]; omega)
    have hr2 : Hid (((if true = true then inb.getD ((k : Int)).toNat 0 else 0 : Nat) : Int) = y) := by show _ = _; rw [hy.out, natI_at]; rfl
    rw [hr2.out]
    rw [← hnl] at c3
    clear h hx hxx hy hnl
    go_enter Try.func79, Try.ntmps79
    go_wp2_with fail
    refine I.out.mono ?_
    rintro e w1 ⟨rfl, rfl⟩
    go_wp2
    go_ret
    exact ⟨rfl, rfl⟩
theorem fsets_any (w : World) (f : Nat) (G : GR) (inb : List Nat) (ns : Nat) (h : FxAt w f G inb ns) : Calls Try.prog 81 #[.pointer (some ⟨f, 0, none⟩)] w fun e w' => e = .returned (.int .i64 ns) ∧ w = w' := by
  obtain ⟨ai, ae, al, an, ci, ce, cl, cn, h⟩ := h
  have c4 : w.cell? ⟨f, 4, none⟩ = some (.int .i64 ns) := h.row.cell 4
  clear h
  go_enter Try.func81, Try.ntmps81
  go_wp2
  go_ret
  exact ⟨rfl, rfl⟩
theorem ffirst_any (w : World) (f : Nat) (G : GR) (inb : List Nat) (ns : Nat) (h : FxAt w f G inb ns) (hl : G.init.length * 8 ≤ 140737488355328) : Calls Try.prog 78 #[.pointer (some ⟨f, 0, none⟩)] w (Cloned .i64 3 G.init w) := by
  obtain ⟨ai, ae, al, an, ci, ce, cl, cn, h⟩ := h
  have c0 : w.cell? ⟨f, 0, none⟩ = some (.slice ai G.init.length ci) := h.row.cell 0
  have C := Lib.hid (clone_ints w ai G.init.length ci G.init h.g.init rfl hl)
  clear h hl
  go_enter Try.func78, Try.ntmps78
  go_wp2_with fail
  refine C.out.mono ?_
  rintro e w1 ⟨a, c, rfl, h1, h2⟩
  replace h1 := Lib.hid h1
  go_wp2
  go_ret
  exact ⟨a, c, rfl, h1.out, h2⟩
theorem fedges_any (w : World) (f : Nat) (G : GR) (inb : List Nat) (ns : Nat) (h : FxAt w f G inb ns) (hl : ∀ l ∈ G.edges, l.length * 16 ≤ 140737488355328) (x : Int) : Calls Try.prog 77 #[.pointer (some ⟨f, 0, none⟩), .int .i64 x] w (ClonedP (edgesP G x) w) := by
  have I := fis_any w f G inb ns h x
  obtain ⟨ai, ae, al, an, ci, ce, cl, cn, h⟩ := h
  have c1 : w.cell? ⟨f, 1, none⟩ = some (.slice ae G.edges.length ce) := h.row.cell 1
  cases hx : inG G.edges.length x with
  | false =>
    rw [hx] at I
    replace I := Lib.hid I
    have hr : Hid (edgesP G x = []) := by show _ = _; unfold edgesP; rw [hx]; rfl
    rw [hr.out]
    clear h hx hl
    go_enter Try.func77, Try.ntmps77
    go_wp2_with fail
    refine I.out.mono ?_
    rintro e w1 ⟨rfl, rfl⟩
    go_wp2
    go_ret
    exact ⟨none, 0, rfl, OwnR.nil _ _ _ _, Below.refl _ _⟩
  | true =>
    rw [hx] at I
    replace I := Lib.hid I
    have hxx : 0 ≤ x ∧ x < (G.edges.length : Int) := by
      unfold inG at hx
      simpa using hx
    obtain ⟨k, rfl⟩ := Int.eq_ofNat_of_zero_le hxx.1
    have hk : k < G.edges.length := by omega
    have hr : edgesP G (k : Int) = G.edges[k] := by unfold edgesP; rw [hx, if_pos rfl]; simp [List.getD, hk]
    rw [hr]
    obtain ⟨b, off, a2, c2, rfl, _, ck, _, hp⟩ := h.g.edges.at k hk
    have C := Lib.hid (clone_pairs w a2 G.edges[k].length c2 G.edges[k] hp rfl (hl _ (List.getElem_mem hk)))
    obtain ⟨es, hes⟩ : ∃ es, es = G.edges[k] := ⟨_, rfl⟩
    rw [← hes] at C ck ⊢
    obtain ⟨n, hn⟩ : ∃ n, n = G.edges.length := ⟨_, rfl⟩
    rw [← hn] at c1
    have hkn : k < n := by omega
    clear h hx hxx hr hl hes hn hp
    go_enter Try.func77, Try.ntmps77
    go_wp2_with fail
    refine I.out.mono ?_
    rintro e w1 ⟨rfl, rfl⟩
    go_wp2_with fail
    refine C.out.mono ?_
    rintro e w1 ⟨a, c, rfl, h1, h2⟩
    replace h1 := Lib.hid h1
    go_wp2
    go_ret
    exact ⟨a, c, rfl, h1.out, h2⟩
end Go.Proofs.Ytmlbjfaofppikaa
