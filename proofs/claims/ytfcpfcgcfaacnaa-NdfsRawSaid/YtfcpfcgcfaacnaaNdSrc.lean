/- What Graph, New and Search give, one behind the other; the plain law of 'NdfsUsed'. No conditions. -/
import Derived.Test.YtfcpfcgcfaacnaaNdNice
import Derived.Test.YtfcpfcgcfaacnaaNdSearchN
import Derived.Test.YtfcpfcgcfaacnaaNdUsedP
import Derived.Test.YtfcpfcgcfaacnaaNdLaw
import Derived.Test.YtfcpfcgcfaacnaaPrNew
import Derived.Test.YtfcpfcgcfaacnaaPrWhole
namespace Go.Proofs.Ytfcpfcgcfaacnaa
open Go.RowKit

/-- what New gives, as a value -/
def NewV (w : World) (G : GR) (sets : List (List Bool)) (A : AU) (v : Value) : Prop :=
  (newB G sets A = true ∧ ∃ p, v = .pointer (some ⟨p, 0, none⟩) ∧ PrAt w p G sets A) ∨ (newB G sets A = false ∧ v = .pointer none)
theorem NewV.below {w w' : World} {G : GR} {sets : List (List Bool)} {A : AU} {v : Value} (h : NewV w G sets A v) (hb : Below w.heap.size w w') : NewV w' G sets A v := by
  rcases h with ⟨h1, p, h2, h3⟩ | h
  · exact .inl ⟨h1, p, h2, h3.below hb⟩
  · exact .inr h
theorem NewMade.v {G : GR} {sets : List (List Bool)} {A : AU} {w w' : World} {e : Ending} (h : NewMade G sets A w e w') : ∃ v, e = .returned v ∧ NewV w' G sets A v := by
  rcases h.2 with ⟨h1, p, h2, h3⟩ | ⟨h1, h2⟩
  · exact ⟨_, h2, .inl ⟨h1, p, rfl, h3⟩⟩
  · exact ⟨_, h2, .inr ⟨h1, rfl⟩⟩
/-- what a search of it gives -/
def resP (G : GR) (sets : List (List Bool)) (A : AU) (bn bd : Int) : NF := if newB G sets A = true then searchP G sets A bn bd else ⟨1, 0, 0, 0, 0, [], []⟩
theorem search_v (w : World) (G : GR) (sets : List (List Bool)) (A : AU) (v : Value) (hv : NewV w G sets A v) (lt : Lt G sets A) (bn bd : Int) :
    Calls Try.prog 14 #[v, .agg #[.int .i64 bn, .int .i64 bd]] w fun e w' => ∃ v, e = .returned v ∧ Below w.heap.size w w' ∧ FoundNew w.heap.size w' v (resP G sets A bn bd) := by
  unfold resP
  rcases hv with ⟨h1, p, rfl, hp⟩ | ⟨h1, rfl⟩
  · rw [if_pos h1]
    exact search_made w p G sets A hp lt h1 bn bd
  · rw [if_neg (by rw [h1]; decide)]
    exact search_nil w bn bd
/-- the blocks that a found's pairs lie in -/
def blkOf (v : Value) (b : Nat) : Prop := ∃ (c : Array Value) (k : Nat) (ad : Addr) (n cap : Nat), v = .agg c ∧ c[k]? = some (.slice (some ad) (n + 1) cap) ∧ ad.block = b
theorem FoundNew.blk {base : Nat} {w : World} {v : Value} {f : NF} (h : FoundNew base w v f) {b : Nat} (hb : blkOf v b) : base ≤ b ∧ b < w.heap.size := by
  obtain ⟨sa, sc, la, lc, h1, ⟨h2, h3⟩, h4, h5⟩ := h
  obtain ⟨c, k, ad, n, cap, e1, e2, e3⟩ := hb
  rw [h1] at e1
  injection e1 with e1
  subst e1
  match k with
  | 0 => cases e2
  | 1 => cases e2
  | 2 => cases e2
  | 3 => cases e2
  | 4 => cases e2
  | 5 =>
    have e2' : Value.slice sa f.stem.length sc = .slice (some ad) (n + 1) cap := Option.some.inj e2
    injection e2' with q1 q2
    subst q1
    obtain ⟨b', off, hb, hl, _⟩ := h2.at 0 (by omega)
    cases hb
    have q3 : b' = b := e3
    have q4 : base ≤ b' := h3 _ rfl
    omega
  | 6 =>
    have e2' : Value.slice la f.loop.length lc = .slice (some ad) (n + 1) cap := Option.some.inj e2
    injection e2' with q1 q2
    subst q1
    obtain ⟨b', off, hb, hl, _⟩ := h4.at 0 (by omega)
    cases hb
    have q3 : b' = b := e3
    have q4 : base ≤ b' := h5 _ rfl
    omega
  | k + 7 => simp [fcells] at e2
theorem PpsAt.keepsN {w w' : World} {a : Option Addr} {l : List PP} {S : Nat → Prop} (h : PpsAt w a l) (hk : Keeps w w' S) (hn : 0 < l.length → ∀ ad, a = some ad → ¬ S ad.block) : PpsAt w' a l := by
  by_cases h0 : 0 < l.length
  · exact h.keeps hk (hn h0)
  · intro h1; exact absurd h1 h0
theorem blk_stem {f : NF} {ad : Addr} {sc lc : Nat} {la : Option Addr} (h : 0 < f.stem.length) : blkOf (.agg (fcells f (some ad) sc la lc).toArray) ad.block := by
  obtain ⟨n, hn⟩ : ∃ n, f.stem.length = n + 1 := ⟨f.stem.length - 1, by omega⟩
  refine ⟨_, 5, ad, n, sc, rfl, ?_, rfl⟩
  show some (Value.slice (some ad) f.stem.length sc) = _
  rw [hn]
theorem blk_loop {f : NF} {ad : Addr} {sc lc : Nat} {sa : Option Addr} (h : 0 < f.loop.length) : blkOf (.agg (fcells f sa sc (some ad) lc).toArray) ad.block := by
  obtain ⟨n, hn⟩ : ∃ n, f.loop.length = n + 1 := ⟨f.loop.length - 1, by omega⟩
  refine ⟨_, 6, ad, n, lc, rfl, ?_, rfl⟩
  show some (Value.slice (some ad) f.loop.length lc) = _
  rw [hn]
/-- a found stored into a box that none of its pairs lies in -/
theorem found_box {W w : World} {g : Nat} {f : NF} {sa la : Option Addr} {sc lc : Nat} {o0 o1 o2 o3 o4 o5 o6 : Value} (h : RowAt w g TFd [o0, o1, o2, o3, o4, o5, o6]) (hb : Below W.heap.size W w) (hg : W.heap.size ≤ g) (p1 : PpsAt w sa f.stem) (p2 : PpsAt w la f.loop) (hn : ∀ b, blkOf (.agg (fcells f sa sc la lc).toArray) b → b ≠ g) {w' : World} (hw : w' = ((((((w.setCell ⟨g, 0, none⟩ (.int .i64 (f.kind : Int))).setCell ⟨g, 1, none⟩ (.int .i64 (f.why : Int))).setCell ⟨g, 2, none⟩ (.int .i64 (f.nodes : Int))).setCell ⟨g, 3, none⟩ (.int .i64 (f.edges : Int))).setCell ⟨g, 4, none⟩ (.int .i64 (f.depth : Int))).setCell ⟨g, 5, none⟩ (.slice sa f.stem.length sc)).setCell ⟨g, 6, none⟩ (.slice la f.loop.length lc)) :
    RowAt w' g TFd (fcells f sa sc la lc) ∧ Below W.heap.size W w' ∧ PpsAt w' sa f.stem ∧ PpsAt w' la f.loop ∧ Keeps w w' (fun j => j = g) := by
  subst hw
  have k := keep7 w g (.int .i64 (f.kind : Int)) (.int .i64 (f.why : Int)) (.int .i64 (f.nodes : Int)) (.int .i64 (f.edges : Int)) (.int .i64 (f.depth : Int)) (.slice sa f.stem.length sc) (.slice la f.loop.length lc)
  exact ⟨store7 h _ _ _ _ _ _ _, k.below hb (fun j e => by omega), p1.keepsN k (fun h0 ad had e => hn ad.block (by rw [had]; exact blk_stem h0) e), p2.keepsN k (fun h0 ad had e => hn ad.block (by rw [had]; exact blk_loop h0) e), k⟩

/-! what is told, plain -/
theorem heldP_le (n : Int) : heldP n ≤ 65536 := by unfold heldP; omega
theorem first_ok {G : GR} {sets : List (List Bool)} {A : AU} (hn : newB G sets A = true) : ∀ y ∈ firstP G A, vPP G sets A y := by
  obtain ⟨hs, hc⟩ : srcB G sets = true ∧ chk A = 0 := by
    unfold newB at hn
    rw [Bool.and_eq_true] at hn
    exact ⟨hn.1, of_decide_eq_true hn.2⟩
  exact first_valid (src_sets hs).1 hc
structure UsedOk (e : NF) (bn bd : Int) : Prop where
  kind : e.kind = 1 ∨ e.kind = 2 ∨ e.kind = 3
  nodes : (e.nodes : Int) ≤ max 0 bn
  depth : (e.depth : Int) ≤ max 0 bd
  dn : e.depth ≤ e.nodes
  few : e.nodes ≤ 3072
  over : e.kind = 3 → (e.why = 1 ∧ (e.nodes : Int) = max 0 bn) ∨ (e.why = 2 ∧ (e.depth : Int) = max 0 bd)
  why : e.kind ≠ 3 → e.why = 0
theorem used_ok {G : GR} {sets : List (List Bool)} {A : AU} (lt : Lt G sets A) (bn bd : Int) : UsedOk (resP G sets A bn bd) bn bd := by
  unfold resP
  by_cases hn : newB G sets A = true
  · rw [if_pos hn]
    have N := nice_of lt hn
    have hb1 : heldP bn = (min (max bn 0) 65536).toNat := rfl
    have hb2 : heldP bd = (min (max bd 0) 65536).toNat := rfl
    rcases search_told (b := ⟨heldP bn, heldP bd⟩) (inq := inP G sets A) N (by decide) (first_ok hn) with h | h
    · obtain ⟨R, r1, r2, r3⟩ := h.few
      have hf := N.few R r1 r2
      have h1 := h.nb
      have h2 := h.db
      have h3 := h.dn
      change (searchP G sets A bn bd).nodes ≤ heldP bn at h1
      change (searchP G sets A bn bd).depth ≤ heldP bd at h2
      change (searchP G sets A bn bd).depth ≤ (searchP G sets A bn bd).nodes at h3
      change (searchP G sets A bn bd).nodes = R.length at r3
      have h4 := h.kind
      change ((searchP G sets A bn bd).kind = 2 ∧ (searchP G sets A bn bd).why = 0 ∧ _) ∨ ((searchP G sets A bn bd).kind = 3 ∧ _ ∧ _ ∧ (((searchP G sets A bn bd).why = 1 ∧ (searchP G sets A bn bd).nodes = heldP bn) ∨ ((searchP G sets A bn bd).why = 2 ∧ (searchP G sets A bn bd).depth = heldP bd))) at h4
      refine ⟨?_, by omega, by omega, h3, by omega, fun hk => ?_, fun hk => ?_⟩
      · rcases h4 with h4 | h4
        · exact .inr (.inl h4.1)
        · exact .inr (.inr h4.1)
      · rcases h4 with h4 | ⟨_, _, _, h4⟩
        · rw [h4.1] at hk; cases hk
        · rcases h4 with ⟨q1, q2⟩ | ⟨q1, q2⟩
          · exact .inl ⟨q1, by omega⟩
          · exact .inr ⟨q1, by omega⟩
      · rcases h4 with h4 | h4
        · exact h4.2.1
        · exact absurd h4.1 hk
    · obtain ⟨R, r1, r2, r3, _⟩ := h.all
      have hf := N.few R r1 r3
      have h1 := h.nb
      have h2 := h.db
      have h3 := h.dn
      change (searchP G sets A bn bd).nodes ≤ heldP bn at h1
      change (searchP G sets A bn bd).depth ≤ heldP bd at h2
      change (searchP G sets A bn bd).depth ≤ (searchP G sets A bn bd).nodes at h3
      change (searchP G sets A bn bd).nodes = R.length at r2
      have h4 := h.kind
      change (searchP G sets A bn bd).kind = 1 ∧ (searchP G sets A bn bd).why = 0 ∧ _ at h4
      exact ⟨.inl h4.1, by omega, by omega, h3, by omega, fun hk => (by rw [h4.1] at hk; cases hk), fun _ => h4.2.1⟩
  · rw [if_neg hn]
    exact ⟨.inl rfl, by show ((0 : Nat) : Int) ≤ _; omega, by show ((0 : Nat) : Int) ≤ _; omega, Nat.le_refl _, by decide, (fun h => by cases h), fun _ => rfl⟩
end Go.Proofs.Ytfcpfcgcfaacnaa
