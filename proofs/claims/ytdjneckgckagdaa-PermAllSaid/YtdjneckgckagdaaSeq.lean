/- Iterators that go over other iterators: what an iterator and a round promise each other where the iterator keeps a loop's record of its own, and the law on a range over such a one. No conditions. -/
import Derived.Test.YtdjneckgckagdaaBase
import Derived.RangeFuncNested
import Derived.RangeFuncBound
import Derived.RangeFuncCalls
import Derived.RangeFuncLeaves
import Derived.Shelf.Abstract
import Derived.Shelf.RegionOpen
import Derived.OwnWalkIn
import Derived.TacticsInMore
import Derived.LoopNIn
import Derived.LoopIn
import Derived.Maps.AppendAt
namespace Go.Proofs.Ytdjneckgckagdaa
open Go.RowKit Go.Shelf

theorem room_wide (k : Nat) : Fence.wide.room k := fun d h => by cases h
theorem round_any {m m' : Nat} {P : Program} {l : Nat} {f : FuncId} {tmps : Array Value} {assign body : Code} {w : World} {R : Ending → World → Prop}
    (h : RoundIn Fence.wide m P l f tmps assign body w R) : RoundIn Fence.wide m' P l f tmps assign body w R := ⟨h.1, fun c cs _ => h.2 c cs (room_wide _)⟩
theorem round_in {F : Fence} {m : Nat} {P : Program} {l : Nat} {f : FuncId} {tmps : Array Value} {assign body : Code} {w : World} {R : Ending → World → Prop} (l' : Nat) (h : RoundIn F m P l f tmps assign body w R) : RoundIn (F.inRound l') m P l f tmps assign body w R := h
theorem yield_any {m m' : Nat} {P : Program} {l : Nat} {args : Array Value} {w : World} {R : Ending → World → Prop} (h : YieldAt Fence.wide m P l args w R) : YieldAt Fence.wide m' P l args w R := by
  obtain ⟨fn, tmps, assign, body, hy, hR⟩ := h
  exact ⟨fn, tmps, assign, body, hy, round_any hR⟩
theorem yield_mono {m : Nat} {P : Program} {l : Nat} {args : Array Value} {w : World} {R R' : Ending → World → Prop} (h : YieldAt Fence.wide m P l args w R) (hr : ∀ e w', R e w' → R' e w') : YieldAt Fence.wide m P l args w R' := by
  obtain ⟨fn, tmps, assign, body, hy, hR⟩ := h
  exact ⟨fn, tmps, assign, body, hy, hR.mono hr⟩
theorem keepsFrom_mono {B B' : Nat} {W W' : World} (h : KeepsFrom B W W') (hB : B ≤ B') : KeepsFrom B' W W' := ⟨h.size, fun k o hk => h.same k o (Nat.le_trans hB hk)⟩
theorem ownFrom_mono {β : Type} {B B' : Nat} {I : β → World → Prop} (h : OwnFrom B I) (hB : B ≤ B') : OwnFrom B' I := fun s W W' row hs hg hr => h s W W' row hs hg (fun r e => ⟨Nat.le_trans hB (hr r e).1, (hr r e).2⟩)

/-- what a round owes an iterator that keeps books of its own from block B on -/
def Word {α : Type} (B : Nat) (Kp : World → World → Prop) (J Jx : List α → World → Prop) (pre : List α) (W : World) (e : Ending) (W' : World) : Prop :=
  (e = .returned (.bool true) ∧ J pre W' ∧ Kp W W' ∧ KeepsFrom B W W') ∨ (e = .returned (.bool false) ∧ Jx pre W' ∧ KeepsFrom B W W')
theorem Word.bool {α : Type} {B : Nat} {Kp : World → World → Prop} {J Jx : List α → World → Prop} {pre : List α} {W W' : World} {e : Ending} (h : Word B Kp J Jx pre W e W') :
    ∃ bb, e = .returned (.bool bb) ∧ Hid ((bb = true ∧ J pre W' ∧ Kp W W' ∧ KeepsFrom B W W') ∨ (bb = false ∧ Jx pre W' ∧ KeepsFrom B W W')) := by
  rcases h with ⟨h1, h2⟩ | ⟨h1, h2⟩
  · exact ⟨true, h1, .inl ⟨rfl, h2⟩⟩
  · exact ⟨false, h1, .inr ⟨rfl, h2⟩⟩
/-- all has come, or a part, a round having said so -/
def Came {α : Type} (S Sp : List α → Prop) (J Jx : List α → World → Prop) (e : Ending) (W : World) : Prop :=
  (∃ v, e = .returned v) ∧ ((∃ xs, S xs ∧ J xs W) ∨ (∃ pre, Sp pre ∧ Jx pre W))
/-- the contract of an iterator that may keep loops' records of its own -/
def SeqO {α : Type} (P : Program) (g : Nat) (lb : Array Value) (encs : α → Array Value) (Ad : List α → α → World → Prop) (Kp : World → World → Prop) (S Sp : List α → Prop) (N : Nat) (w : World) : Prop :=
  ∀ (l : Nat) (J Jx : List α → World → Prop) (W : World), Below w.heap.size w W → OwnFrom W.heap.size J → OwnFrom W.heap.size Jx →
    (∀ pre x W1, J pre W1 → pre.length < N → Ad pre x W1 → YieldAt Fence.wide 0 P l (encs x) W1 (Word W.heap.size Kp J Jx (pre ++ [x]) W1)) →
    J [] W → Calls P g (#[.func (.yield l) #[] #[]] ++ lb) W (Came S Sp J Jx)
theorem SeqO.later {α : Type} {P : Program} {g : Nat} {lb : Array Value} {encs : α → Array Value} {Ad : List α → α → World → Prop} {Kp : World → World → Prop} {S Sp : List α → Prop} {N : Nat} {w w' : World}
    (h : SeqO P g lb encs Ad Kp S Sp N w) (hb : Below w.heap.size w w') : SeqO P g lb encs Ad Kp S Sp N w' :=
  fun l J Jx W hW hJ hJx hY h0 => h l J Jx W (hb.trans (hW.mono hb.size)) hJ hJx hY h0

/-- what a round keeps: all that lay below n₀, and all rows but those of two types -/
structure KpT (n₀ : Nat) (T1 T2 : TypeId) (W W' : World) : Prop where
  below : Below n₀ W W'
  rows : ∀ (k : Nat) (c : Array Value) (t : TypeId), t ≠ T1 → t ≠ T2 → W.heap[k]? = some (Obj.cells c t (0, 0)) → W'.heap[k]? = W.heap[k]?
section
variable {n₀ : Nat} {T1 T2 : TypeId} {A B C : World}
theorem KpT.refl (A : World) : KpT n₀ T1 T2 A A := ⟨Below.refl _ _, fun _ _ _ _ _ _ => rfl⟩
theorem KpT.trans (h : KpT n₀ T1 T2 A B) (k : KpT n₀ T1 T2 B C) : KpT n₀ T1 T2 A C :=
  ⟨h.below.trans k.below, fun i c t h1 h2 hi => (k.rows i c t h1 h2 ((h.rows i c t h1 h2 hi).trans hi)).trans (h.rows i c t h1 h2 hi)⟩
theorem KpT.put {W : World} {l : Nat} {o : Obj} (o' : Obj) (hl : n₀ ≤ l) (h : W.heap[l]? = some o) (ho : o.isCells = false) : KpT n₀ T1 T2 W (W.putObj l o') :=
  ⟨(Below.refl n₀ W).grown (grownBy_putObj' W l o') (by have := (Array.getElem?_eq_some_iff.1 h).1; omega) (fun k e => by cases e; omega),
   fun k c t _ _ hk => World.putObj_heap_other (fun e => by subst e; rw [h] at hk; cases hk; cases ho)⟩
theorem KpT.alloc (hn : n₀ ≤ A.heap.size) (o : Obj) : KpT n₀ T1 T2 A (A.alloc o) :=
  ⟨(Below.refl _ _).alloc hn o, fun k c t _ _ hk => Below.heap_alloc _ _ k (Array.getElem?_eq_some_iff.1 hk).1⟩
theorem KpT.drew (A : World) : KpT n₀ T1 T2 A A.drew := ⟨⟨rfl, rfl, rfl, Nat.le_refl _, fun _ _ => rfl⟩, fun _ _ _ _ _ _ => rfl⟩
theorem KpT.grown {row : Option Nat} (hg : A.grownBy B row) (hn : n₀ ≤ A.heap.size) (hr : ∀ k, row = some k → n₀ ≤ k ∧ ∃ (c : Array Value) (t : TypeId), (t = T1 ∨ t = T2) ∧ A.heap[k]? = some (Obj.cells c t (0, 0))) : KpT n₀ T1 T2 A B :=
  ⟨(Below.refl _ _).grown hg hn (fun k e => (hr k e).1), fun k c t h1 h2 hk => hg.block k (Array.getElem?_eq_some_iff.1 hk).1 (fun e => by
    obtain ⟨_, c', t', ht, hk'⟩ := hr k e.symm
    rw [hk] at hk'
    cases hk'
    rcases ht with rfl | rfl
    · exact h1 rfl
    · exact h2 rfl)⟩
theorem KpT.box {W W' : World} {b t : Nat} {v : Value} (h : KpT n₀ T1 T2 W W') (hb : Boxed W b t v) (h1 : t ≠ T1) (h2 : t ≠ T2) : Boxed W' b t v := (h.rows b _ t h1 h2 hb).trans hb
end
theorem grown_drew (W : World) : W.grownBy W.drew none := ⟨rfl, rfl, rfl, Nat.le_refl _, fun _ _ _ => rfl⟩
theorem own_drew {β : Type} {B : Nat} {I : β → World → Prop} (h : OwnFrom B I) {s : β} {W : World} (hs : I s W) : I s W.drew := h s W W.drew none hs (grown_drew W) (fun r e => by cases e)
theorem keepsFrom_drew (B : Nat) (W : World) : KeepsFrom B W W.drew := (KeepsOthers.drew W).from B
section
variable {P : Program} {m : Nat}
theorem wp_rangeO {α : Type} {g : Operand} {ps : Array Tmp} {assign body : Code} {Q : Exit → Go.Act → World → Prop} {a : Go.Act} {w : World} {gf : Nat} {lb : Array Value}
    (hg : a.eval g = .func (.func gf) #[] lb) (eg : ∀ args w, (callFunc gf args).run P w = .ok (.enter gf args) w)
    {encs : α → Array Value} {Ad : List α → α → World → Prop} {Kp : World → World → Prop} {S Sp : List α → Prop} {N : Nat} {w0 : World} (hseq : SeqO P gf lb encs Ad Kp S Sp N w0)
    (hKt : ∀ {A B C : World}, Kp A B → Kp B C → Kp A C) (hKb : ∀ (W : World) (l : Nat) (o o' : Obj), w.heap.size ≤ l → W.heap[l]? = some o → o.isCells = false → o.isWalk = false → Kp W (W.putObj l o'))
    (hb0 : Below w0.heap.size w0 w) (hps : ∀ x, (encs x).size = ps.size)
    (I : List α → World → Prop) (Ix : Code → List α → World → Prop) (hI : OwnFrom w.heap.size I) (hIx : ∀ c, OwnFrom w.heap.size (Ix c)) (h0 : I [] w) (a₁ : α → Go.Act)
    (hassign : ∀ (l : Nat) (x : α) (W : World) (K : Go.Act → World → Prop), K (a₁ x) W →
      assign.wpIn (Fence.wide.inRound l) m P (Exit.then K (fun _ _ _ => False)) { tmps := (ps.zip (encs x)).foldl (fun t (p, v) => t.setIfInBounds p v) a.tmps, defers := [] } W)
    (hAd : ∀ (W : World) (l : Nat) (o o' : Obj) pre x, w.heap.size ≤ l → W.heap[l]? = some o → o.isCells = false → Ad pre x W → Ad pre x (W.putObj l o'))
    (hbody : ∀ (l : Nat) (pre : List α) (x : α) (W : World), I pre W → pre.length < N → Ad pre x W → body.wpIn (Fence.wide.inRound l) m P (ownPostG w.heap.size Kp I Ix (pre ++ [x]) W) (a₁ x) W)
    (hdone : ∀ (D : Nat) (xs : List α) (W : World), w.heap.size ≤ D → S xs → I xs W → W.heap[D]? = some (.deferred (some [])) → Q .normal { a with defers := { target := .collected D, args := #[] } :: a.defers } W)
    (hstop : ∀ (D : Nat) (c : Code) (pre : List α) (W : World), w.heap.size ≤ D → Sp pre → Ix c pre W → W.heap[D]? = some (.deferred (some [])) → c.wpIn Fence.wide m P Q { a with defers := { target := .collected D, args := #[] } :: a.defers } W) :
    (Code.rangeFunc g ps assign body).wpIn Fence.wide m P Q a w := by
  refine wpIn_rangeFunc fun fn hfn => ?_
  obtain ⟨n, hn⟩ : ∃ n, n = w.heap.size := ⟨_, rfl⟩
  obtain ⟨rec, hrec⟩ : ∃ rec : LoopState → Option Code → Loop, rec = fun st pe => { state := st, pending := pe, fn, tmps := a.tmps, params := ps, assign, body, defers := w.heap.size } := ⟨_, rfl⟩
  have hps' : ∀ st pe, (rec st pe).params = ps := fun st pe => by rw [hrec]
  have hst' : ∀ st pe, (rec st pe).state = st := fun st pe => by rw [hrec]
  have hpe' : ∀ st pe, (rec st pe).pending = pe := fun st pe => by rw [hrec]
  have hwith : ∀ st pe st' pe', { rec st pe with state := st', pending := pe' } = rec st' pe' := fun _ _ _ _ => by rw [hrec]
  have hbusy : ∀ st pe st', { rec st pe with state := st' } = rec st' pe := fun _ _ _ => by rw [hrec]
  have hrun := run_enterLoop_outer (P := P) (w := w) fn a.tmps ps assign body
  obtain ⟨W1, hW1⟩ : ∃ W1, (w.alloc (.deferred (some []))).alloc (.loop (rec .ready none)) = W1 := ⟨_, rfl⟩
  have hs1 : W1.heap.size = n + 2 := by rw [← hW1, hn]; simp
  have hL1 : W1.heap[n + 1]? = some (.loop (rec .ready none)) := by
    rw [← hW1, hn]
    have h := World.alloc_heap_new (w.alloc (.deferred (some []))) (.loop (rec .ready none))
    rwa [World.size_alloc] at h
  have hK1 : W1.heap[n]? = some (.deferred (some [])) := by
    rw [← hW1, hn]
    exact (Below.heap_alloc _ _ _ (by simp)).trans (World.alloc_heap_new w _)
  have hI1 : I [] W1 := by rw [← hW1]; exact hI.alloc _ (hI.alloc _ h0)
  have hb1 : Below w0.heap.size w0 W1 := by
    rw [← hW1]
    exact hb0.trans ((((Below.refl _ w).alloc (Nat.le_refl _) _).alloc (by simp) _).mono hb0.size)
  rw [← hn] at hI hIx hKb hdone hstop hbody hAd
  -- the caller's word, with the two blocks of its books
  obtain ⟨J, hJ⟩ : ∃ J : List α → World → Prop, J = fun pre W => I pre W ∧ W.heap[n + 1]? = some (.loop (rec .ready none)) ∧ W.heap[n]? = some (.deferred (some [])) := ⟨_, rfl⟩
  obtain ⟨Jx, hJx⟩ : ∃ Jx : List α → World → Prop, Jx = fun pre W => ∃ c, Ix c pre W ∧ W.heap[n + 1]? = some (.loop (rec .done (some c))) ∧ W.heap[n]? = some (.deferred (some [])) := ⟨_, rfl⟩
  have keep : ∀ {A B : World} {row : Option Nat}, A.grownBy B row → (∀ r, row = some r → W1.heap.size ≤ r ∧ ∃ o : Obj, A.heap[r]? = some o ∧ o.isCells = false) → ∀ k o, k < n + 2 → A.heap[k]? = some o → B.heap[k]? = some o := fun {A B row} hg hr k o hk ho =>
    (hg.block k (Array.getElem?_eq_some_iff.1 ho).1 (fun e => by have := (hr k e.symm).1; omega)).trans ho
  have oJ : OwnFrom W1.heap.size J := by
    rw [hJ]
    rintro s A B row ⟨h1, h2, h3⟩ hg hr
    exact ⟨ownFrom_mono hI (by omega) s A B row h1 hg hr, keep hg hr _ _ (by omega) h2, keep hg hr _ _ (by omega) h3⟩
  have oJx : OwnFrom W1.heap.size Jx := by
    rw [hJx]
    rintro s A B row ⟨c, h1, h2, h3⟩ hg hr
    exact ⟨c, ownFrom_mono (hIx c) (by omega) s A B row h1 hg hr, keep hg hr _ _ (by omega) h2, keep hg hr _ _ (by omega) h3⟩
  -- one round
  have hround : ∀ pre x W, J pre W → pre.length < N → Ad pre x W → YieldAt Fence.wide 0 P (n + 1) (encs x) W (Word W1.heap.size Kp J Jx (pre ++ [x]) W) := by
    intro pre x W hj hlen had
    rw [hJ] at hj
    obtain ⟨hi, hl, hk⟩ := hj
    have hlt : n + 1 < W.heap.size := (Array.getElem?_eq_some_iff.1 hl).1
    have hy := run_yield (P := P) (args := encs x) hl ((hps x).trans (by rw [hps']))
    rw [hrec] at hy
    refine ⟨fn, _, assign, body, hy, round_any (m := m) (roundIn_of_wpIn hfn (hassign _ x W _ ⟨_, run_beginRound hl (hst' _ _), ?_⟩))⟩
    clear hy
    rw [hbusy]
    obtain ⟨W2, hW2⟩ : ∃ W2, W.putObj (n + 1) (.loop (rec .busy none)) = W2 := ⟨_, rfl⟩
    rw [hW2]
    have hl2 : W2.heap[n + 1]? = some (.loop (rec .busy none)) := by rw [← hW2]; exact World.putObj_heap_same hlt
    have hk2 : W2.heap[n]? = some (.deferred (some [])) := by rw [← hW2]; exact (World.putObj_heap_other (by omega)).trans hk
    have hp2 : Kp W W2 := by rw [← hW2]; exact hKb _ _ _ _ (by omega) hl rfl rfl
    have hi2 : I pre W2 := by rw [← hW2]; exact hI.putObj _ hi (by omega) hl rfl
    have hq2 : KeepsFrom W1.heap.size W W2 := by rw [← hW2]; exact KeepsFrom.of_grownBy (grownBy_putObj' _ _ _) (fun j e => by cases e; omega)
    have had2 : Ad pre x W2 := by rw [← hW2]; exact hAd _ _ _ _ _ _ (by omega) hl rfl had
    clear hW2
    -- how a round ends
    have fin : ∀ (jump : Option Code) (W3 : World), KeepsFrom n W2 W3 → ∃ W4, (Instr.endRound (n + 1) jump).run P W3 = .ok (.bool jump.isNone) W4 ∧ W3.heap[n + 1]? = some (.loop (rec .busy none)) ∧
        W4 = W3.putObj (n + 1) (.loop (rec (if jump.isNone then .ready else .done) jump)) ∧ W4.heap[n + 1]? = some (.loop (rec (if jump.isNone then .ready else .done) jump)) ∧ W4.heap[n]? = some (.deferred (some [])) ∧ KeepsFrom W1.heap.size W W4 := by
      intro jump W3 hk3
      have hl3 := hk3.same _ _ (by omega) hl2 rfl
      have hlt3 := (Array.getElem?_eq_some_iff.1 hl3).1
      have hr := run_endRound (P := P) jump hl3
      rw [hwith] at hr
      exact ⟨_, hr, hl3, rfl, World.putObj_heap_same hlt3, (World.putObj_heap_other (by omega)).trans (hk3.same _ _ (Nat.le_refl _) hk2 rfl),
        (hq2.trans (keepsFrom_mono hk3 (by omega))).trans (KeepsFrom.of_grownBy (grownBy_putObj' _ _ _) (fun j e => by cases e; omega))⟩
    have leaves : ∀ (c : Code) (W3 : World), KeepsFrom n W2 W3 → Ix c (pre ++ [x]) W3 → ∃ v w', (Instr.endRound (n + 1) (some c)).run P W3 = .ok v w' ∧ Word W1.heap.size Kp J Jx (pre ++ [x]) W (.returned v) w' := by
      intro c W3 hk3 hi3
      obtain ⟨W4, hr, hl3, e4, hl4, hk4, hf⟩ := fin (some c) W3 hk3
      refine ⟨_, W4, hr, .inr ⟨rfl, ?_, hf⟩⟩
      rw [hJx]
      exact ⟨c, by rw [e4]; exact (hIx c).putObj _ hi3 (by omega) hl3 rfl, hl4, hk4⟩
    refine wpIn_mono (hbody _ pre x _ hi2 hlen had2) ?_
    rintro e a3 W3 hp
    cases e with
    | normal =>
      obtain ⟨hk3, hkp3, hi3⟩ := hp
      obtain ⟨W4, hr, hl3, e4, hl4, hk4, hf⟩ := fin none W3 hk3
      refine ⟨_, W4, hr, .inl ⟨rfl, ?_, hKt (hKt hp2 hkp3) (by rw [e4]; exact hKb _ _ _ _ (by omega) hl3 rfl rfl), hf⟩⟩
      rw [hJ]
      exact ⟨by rw [e4]; exact hI.putObj _ hi3 (by omega) hl3 rfl, hl4, hk4⟩
    | ret => exact leaves _ _ hp.1 hp.2
    | exit id => exact leaves _ _ hp.1 hp.2
    | goto t => exact leaves _ _ hp.1 hp.2
    | panic ch => exact hp.elim
    | outgrown => exact hp.elim
  have hcall := hseq (n + 1) J Jx W1 hb1 oJ oJx hround (by rw [hJ]; exact ⟨hI1, hL1, hK1⟩)
  refine ⟨n + 1, [{ target := .collected n, args := #[] }], W1, { target := .fn (.func gf) lb, args := #[.func (.yield (n + 1)) #[] #[]] }, W1, gf, #[.func (.yield (n + 1)) #[] #[]] ++ lb, W1, ?_, ?_, ?_, ?_, (fun h => by cases h), ?_⟩
  · rw [← hW1, hn, hrec]
    exact hrun
  · simp only [resolve, hg]
    simp [go_sem]
  · intro f' hf'; trivial
  · simp [invoke, go_sem, eg]
  · refine (callsIn_wide.2 hcall).mono ?_
    rintro e W2 ⟨⟨v, rfl⟩, ⟨xs, hS, hj⟩ | ⟨pre, hSp, hj⟩⟩
    · rw [hJ] at hj
      obtain ⟨hi, hl, hk⟩ := hj
      have he := run_endLoop (P := P) hl (by rw [hst']; simp)
      rw [hbusy, hpe'] at he
      exact ⟨none, _, he, hdone _ xs _ (Nat.le_refl _) hS (hI.putObj _ hi (by omega) hl rfl) ((World.putObj_heap_other (by omega)).trans hk)⟩
    · rw [hJx] at hj
      obtain ⟨c, hi, hl, hk⟩ := hj
      have he := run_endLoop (P := P) hl (by rw [hst']; simp)
      rw [hbusy, hpe'] at he
      exact ⟨some c, _, he, hstop _ c pre _ (Nat.le_refl _) hSp ((hIx c).putObj _ hi (by omega) hl rfl) ((World.putObj_heap_other (by omega)).trans hk)⟩
end
end Go.Proofs.Ytdjneckgckagdaa
