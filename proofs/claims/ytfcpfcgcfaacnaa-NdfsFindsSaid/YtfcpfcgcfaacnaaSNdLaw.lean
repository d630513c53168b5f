/- The law's arguments (a task, a budget), and whether a task is too large. No conditions. -/
import Derived.Test.YtfcpfcgcfaacnaaSPrArg
import Derived.Test.YtfcpfcgcfaacnaaSPrLawIn
namespace Go.Proofs.Ytfcpfcgcfaacnaa
open Go.RowKit Go.ChangeShapes Go.WideShapes Go.ChangeAt
abbrev TTk : Nat := 32
abbrev TBu : Nat := 34
structure TK where
 G : GR
 sets : List (List Bool)
 A : AU
def rTask : Rd TK := fun w cs t => ∃ cg v ca, cs = cg ++ [v] ++ ca ∧ rGR w cg t.G ∧ rSl 1 24 (rSl 1 1 rBool) w [v] t.sets ∧ rAU w ca t.A
theorem list7 {α : Type} {l : List α} (h : l.length = 7) : ∃ a b c d e f g, l = [a, b, c, d, e, f, g] := by
 match l, h with
 | [a, b, c, d, e, f, g], _ => exact ⟨a, b, c, d, e, f, g, rfl⟩
theorem opens_Task : Opens Try.prog TTk rTask := by
 intro H enc w fuel cs d ps hd hwt
 have hl := trod_struct_len Try.underlying32 hd
 have hc : Try.prog.cellsOf TTk = 7 := by kernel_rfl
 obtain ⟨c0, c1, c2, c3, c4, c5, c6, rfl⟩ := list7 (hl.trans hc)
 obtain ⟨x0, h0⟩ := opens_field Try.underlying32 0 0 3 _ rfl rfl (by kernel_rfl) opens_GR hd hwt
 obtain ⟨x1, h1⟩ := opens_field Try.underlying32 1 3 1 _ rfl rfl (by kernel_rfl) opens_sets hd hwt
 obtain ⟨x2, h2⟩ := opens_field Try.underlying32 2 4 3 _ rfl rfl (by kernel_rfl) opens_AU hd hwt
 exact ⟨⟨x0, x1, x2⟩, [c0, c1, c2], c3, [c4, c5, c6], rfl, h0, h1, h2⟩
def rBud : Rd (Int × Int) := fun _ cs x => cs = [.int .i64 x.1, .int .i64 x.2]
theorem opens_Bud : Opens Try.prog TBu rBud := by
 intro H enc w fuel cs d ps hd hwt
 have hl := trod_struct_len Try.underlying34 hd
 have hc : Try.prog.cellsOf TBu = 2 := by kernel_rfl
 obtain ⟨c0, c1, rfl⟩ := list2 (hl.trans hc)
 obtain ⟨x0, h0⟩ := opens_field Try.underlying34 0 0 1 _ rfl rfl (by kernel_rfl) (opens_int Try.underlying3) hd hwt
 obtain ⟨x1, h1⟩ := opens_field Try.underlying34 1 1 1 _ rfl rfl (by kernel_rfl) (opens_int Try.underlying3) hd hwt
 simp only [List.drop_zero, List.drop_succ_cons, List.take_succ_cons, List.take_zero, rInt, List.cons.injEq, and_true] at h0 h1
 exact ⟨(x0, x1), by rw [rBud, h0.1, h1.1]⟩
abbrev tcells (X : RX) (G : GR) (sets : List (List Bool)) (A : AU) : List Value := [.slice X.ai G.init.length X.ci, .slice X.ae G.edges.length X.ce, .slice X.al G.labels.length X.cl, .slice X.as_ sets.length X.cs, .int .i64 A.sets, .slice X.bi A.init.length X.di, .slice X.bn A.nodes.length X.dn]
theorem LawIn.task {W : World} {c : Array Value} {t : TK} (h : rTask W c.toList t) : ∃ X : RX, c = (tcells X t.G t.sets t.A).toArray ∧ LawIn W X t.G t.sets t.A := by
 obtain ⟨cg, v, ca, hc, hg, hs, ha⟩ := h
 obtain ⟨X, e1, e2, e3, h⟩ := LawIn.of (c := cg.toArray) (ca := ca.toArray) (by simpa using hg) hs (by simpa using ha)
 refine ⟨X, ?_, h⟩
 have e1' : cg = gcells X t.G := by simpa using e1
 have e3' : ca = acells X t.A := by simpa using e3
 subst e1' e2 e3'
 cases c
 simpa using hc
theorem LawIn.below {W w : World} {X : RX} {G : GR} {sets : List (List Bool)} {A : AU} (h : LawIn W X G sets A) (hb : Below W.heap.size W w) : LawIn w X G sets A := ⟨h.g.below hb, h.s.below hb, h.au.below hb, h.ok, h.aok⟩
def lightK (G : GR) (sets : List (List Bool)) (A : AU) : Bool :=
 decide (G.edges.length ≤ 12 ∧ G.labels.length ≤ 40 ∧ G.init.length ≤ 20 ∧ sets.length ≤ 20 ∧ A.nodes.length ≤ 8 ∧ A.init.length ≤ 20) && (G.edges.all (fun l => decide (l.length ≤ 12)) && (sets.all (fun l => decide (l.length ≤ 40)) && A.nodes.all (fun x => decide (x.to.length ≤ 12))))
theorem lightK_lt {G : GR} {sets : List (List Bool)} {A : AU} (h : lightK G sets A = true) : Lt G sets A := by
 unfold lightK at h
 simp only [Bool.and_eq_true, decide_eq_true_eq, List.all_eq_true] at h
 obtain ⟨⟨h1, h2, h3, h4, h5, h6⟩, h7, h8, h9⟩ := h
 exact ⟨h1, h3, h2, h4, h5, h6, h7, h9⟩
def heavyN (G : GR) (sets : List (List Bool)) (A : AU) : Int := if lightK G sets A = true then 0 else 1
theorem heavyN_0 {G : GR} {sets : List (List Bool)} {A : AU} (h : lightK G sets A = true) : heavyN G sets A = 0 := if_pos h
theorem heavyN_1 {G : GR} {sets : List (List Bool)} {A : AU} (h : lightK G sets A = false) : heavyN G sets A = 1 := if_neg (by simp [h])
theorem all_noK {α : Type} {p : α → Bool} {l : List α} {k : Nat} (hk : k < l.length) (h : p l[k] = false) : l.all p = false := by
 rw [List.all_eq_false]
 exact ⟨l[k], List.getElem_mem hk, by simp [h]⟩
theorem all_snocK {α : Type} {p : α → Bool} {l : List α} {k : Nat} (hk : k < l.length) (h : (l.take k).all p = true) (h1 : p l[k] = true) : (l.take (k + 1)).all p = true := by
 rw [List.take_add_one, List.getElem?_eq_getElem hk, Option.toList_some, List.all_append, h]
 simp [h1]
end Go.Proofs.Ytfcpfcgcfaacnaa
