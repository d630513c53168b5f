/- What a whole product reads as; what Graph and New give, as values. No conditions. -/
import Derived.Test.YtfcpfcgcfaacnaaSPrWholeP
import Derived.BigRegion
import Derived.Deep.CutBlock
import Derived.Deep.DeepCutAuto
import Derived.Deep.RegionHeld3
namespace Go.Proofs.Ytfcpfcgcfaacnaa
open Go.RowKit
theorem TruthsAt.of_own {w : World} {base c : Nat} {a : Option Addr} {l : List Bool} (h : OwnR w base TyB 1 a l.length c (bcells l)) : TruthsAt w a l := fun h0 => by
 obtain ⟨g, rfl, _, _⟩ := OwnR.addr h h0
 refine ⟨g, 0, rfl, fun i hi => ?_⟩
 rw [Nat.zero_add, OwnR.cell h i (by omega)]
 simp [bcells, hi]
theorem WSt.reads {W : World} {tq : TypeId} {gB mb lo hi : Nat} {Wz : World} {M : Option Obj → Prop} {vi ve vl : Value} {X : WX} {C : WC} {w w' : World} (h : WSt W tq gB mb lo hi Wz M vi ve vl X C w) (hk : Keeps w w' (fun j => j < W.heap.size)) :
  NumsAt .i64 w' X.ia C.init ∧ EdgesAt w' X.ea (rowsOf C.S) ∧ NumsAt .u64 w' X.la (natI C.labs) ∧ PpsAt w' X.qa C.l ∧ TruthsAt w' X.ba C.ins := by
 refine ⟨NumsAt.of_owns (h.i.keeps hk (fun j hj e => by have := (h.i.lt2 hj).1; omega)), EsOwn.edges (h.e.keeps hk (fun j hj e => by have := (h.e.blk hj).1; omega)), NumsAt.of_owns (h.l.keeps hk (fun j hj e => by have := (h.l.lt2 hj).1; omega)), PpsAt.of_own (OwnR.keeps h.q hk (fun j hj e => by have := (OwnR.lt h.q hj).1; omega)), TruthsAt.of_own (OwnR.keeps h.b hk (fun j hj e => by have := (OwnR.lt h.b hj).1; omega))⟩
def SrcV (w : World) (G : GR) (sets : List (List Bool)) (v : Value) : Prop :=
 (srcB G sets = true ∧ ∃ f, v = .iface TFp (.pointer (some ⟨f, 0, none⟩)) ∧ FxAt w f G (inbits G.edges.length sets) sets.length) ∨ (srcB G sets = false ∧ v = .nilIface)
theorem SrcMade.v {G : GR} {sets : List (List Bool)} {w w' : World} {e : Ending} (h : SrcMade G sets w e w') : ∃ v, e = .returned v ∧ SrcV w' G sets v := by
 rcases h.2 with ⟨h1, f, h2, h3⟩ | ⟨h1, h2⟩
 ·exact ⟨_, h2, .inl ⟨h1, f, rfl, h3⟩⟩
 ·exact ⟨_, h2, .inr ⟨h1, rfl⟩⟩
theorem SrcV.below {w w' : World} {G : GR} {sets : List (List Bool)} {v : Value} (h : SrcV w G sets v) (hb : Below w.heap.size w w') : SrcV w' G sets v := by
 rcases h with ⟨h1, f, h2, h3⟩ | h
 ·exact .inl ⟨h1, f, h2, h3.below hb⟩
 ·exact .inr h
theorem new_v (w : World) (ai an : Option Addr) (ci cn : Nat) (G : GR) (sets : List (List Bool)) (A : AU) (v : Value) (hv : SrcV w G sets v) (ok : GOk G) (hA : AuAt w ai A.init.length an A.nodes.length A) (aok : AuOk A) :
  Calls Try.prog 12 #[v, auv ai an ci cn A] w (NewMade G sets A w) := by
 rcases hv with ⟨h1, f, rfl, hF⟩ | ⟨h1, rfl⟩
 ·exact new_any w ai an ci cn f G sets A hF h1 ok hA aok
 ·refine (new_nil w ai an ci cn A).mono ?_
  rintro e w' ⟨rfl, hb⟩
  exact ⟨hb, .inr ⟨by unfold newB; rw [h1]; rfl, rfl⟩⟩
theorem newB_split {G : GR} {sets : List (List Bool)} {A : AU} (h : newB G sets A = true) : srcB G sets = true ∧ chk A = 0 := by
 unfold newB at h
 rw [Bool.and_eq_true] at h
 exact ⟨h.1, of_decide_eq_true h.2⟩
end Go.Proofs.Ytfcpfcgcfaacnaa
