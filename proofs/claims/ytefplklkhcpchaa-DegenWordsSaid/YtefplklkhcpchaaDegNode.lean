/- A pair as a node. Conditions: the bounds on how many. -/
import Derived.Test.YtefplklkhcpchaaDegIs
import Derived.Deep.RegionHeld3
namespace Go.Proofs.Ytefplklkhcpchaa
open Go.RowKit

abbrev TN : Nat := 40
/-- what a pair as a node gives -/
def Noded (w : World) (B M mb : Nat) (pa : Option Addr) (pc : Nat) (s : Int) (ai : Option Addr) (ni ci : Nat) (an : Option Addr) (nn cn : Nat) (l : List PR) (q : List PR × AN) (e : Ending) (w' : World) : Prop :=
  ∃ ao co pa' pc', e = .returned (.agg #[.int .u64 q.2.need, .int .u64 q.2.ban, .int .u64 q.2.inn, .slice ao q.2.to.length co]) ∧ OwnN .i64 w' B 3 ao q.2.to.length co q.2.to ∧ MK w' B M mb pa' pc' s ai ni ci an nn cn q.1 ∧ Keeps w w' (Hot M mb (.slice pa l.length pc)) ∧
    Hid (∀ j, (Value.slice pa' q.1.length pc').ownBlock = some j → (Value.slice pa l.length pc).ownBlock = some j ∨ w.heap.size ≤ j) ∧
    Hid (∀ j, (Value.slice ao q.2.to.length co).ownBlock = some j → w.heap.size ≤ j ∧ ¬ Hot M mb (.slice pa' q.1.length pc') j)
theorem nodeAt_get {A : AU} {i : Nat} (hi : i < A.nodes.length) : nodeAt A (i : Int) = A.nodes[i] := by
  unfold nodeAt
  rw [Int.toNat_natCast, List.getD_eq_getElem?_getD, List.getElem?_eq_getElem hi]
  rfl
theorem wfI {x : Int} (h : -9223372036854775808 ≤ x ∧ x ≤ 9223372036854775807) : (Lit.int .i64 x).wf = true := by simpa [Lit.wf, IntKind.min, IntKind.max, IntKind.signed, IntKind.bits] using h

theorem keeps4 (w : World) (n : Nat) (a b c d : Value) : Keeps w ((((w.setCell ⟨n, 0, none⟩ a).setCell ⟨n, 1, none⟩ b).setCell ⟨n, 2, none⟩ c).setCell ⟨n, 3, none⟩ d) (fun j => j = n) :=
  (((Keeps.set w n 0 a (S := fun j => j = n) rfl).trans (Keeps.set _ n 1 b (S := fun j => j = n) rfl) (fun _ _ h => h)).trans (Keeps.set _ n 2 c (S := fun j => j = n) rfl) (fun _ _ h => h)).trans (Keeps.set _ n 3 d (S := fun j => j = n) rfl) (fun _ _ h => h)
theorem Keeps.mono {w w' : World} {S S' : Nat → Prop} (h : Keeps w w' S) (hs : ∀ j, j < w.heap.size → S j → S' j) : Keeps w w' S' := ⟨h.os, h.tape, h.output, h.size, fun j hj hn => h.block j hj (fun e => hn (hs j hj e))⟩
theorem noded_fin {w wX wY wE : World} {B M mb : Nat} {pa : Option Addr} {pc : Nat} {s : Int} {ai : Option Addr} {ni ci : Nat} {an : Option Addr} {nn cn : Nat} {l : List PR} (h : MK w B M mb pa pc s ai ni ci an nn cn l) (hbX : Below w.heap.size w wX) (hzX : w.heap.size + 1 < wX.heap.size)
    {q : List PR × List Int} {ao : Option Addr} {co : Nat} {pa' : Option Addr} {pc' : Nat} (ho : OwnN .i64 wY B 3 ao q.2.length co q.2) (hM : MK wY B M mb pa' pc' s ai ni ci an nn cn q.1) (hK : Keeps wX wY (Hot M mb (.slice pa l.length pc)))
    (hf : Hid (∀ j, (Value.slice pa' q.1.length pc').ownBlock = some j → (Value.slice pa l.length pc).ownBlock = some j ∨ wX.heap.size ≤ j)) (hc : Hid (∀ j, (Value.slice ao q.2.length co).ownBlock = some j → wX.heap.size ≤ j ∧ ¬ Hot M mb (.slice pa' q.1.length pc') j))
    (hE : Keeps wY wE (fun j => w.heap.size + 1 ≤ j ∧ j < wX.heap.size)) (ne ba inn : Nat) : Noded w B M mb pa pc s ai ni ci an nn cn l (q.1, ⟨ne, ba, inn, q.2⟩) (.returned (.agg #[.int .u64 ne, .int .u64 ba, .int .u64 inn, .slice ao q.2.length co])) wE := by
  have hot : ∀ j, Hot M mb (.slice pa' q.1.length pc') j → ¬ (w.heap.size + 1 ≤ j ∧ j < wX.heap.size) := by
    intro j hj e
    rcases hj with h1 | h1 | h1
    · have := h.row.lt; omega
    · have := h.map.lt; omega
    · rcases hf.out _ h1 with h2 | h2
      · have := (OwnR.lt h.own h2).2; omega
      · omega
  refine ⟨ao, co, pa', pc', rfl, ho.keeps hE (fun j hj e => by have := (hc.out j hj).1; omega), hM.keeps hE (fun j hj e => hot j hj e), ?_, ?_, ?_⟩
  · exact ((Keeps.of_below hbX).trans hK (fun _ _ h => h)).trans hE (fun j hj e => by omega)
  · intro j hj
    rcases hf.out j hj with h1 | h1
    · exact .inl h1
    · exact .inr (by omega)
  · intro j hj
    obtain ⟨h1, h2⟩ := hc.out j hj
    exact ⟨by omega, h2⟩
set_option maxHeartbeats 8000000 in
theorem node_any (W w : World) (hbW : Below W.heap.size W w) (M mb : Nat) (pa : Option Addr) (pc : Nat) (s : Nat) (ai : Option Addr) (ni ci : Nat) (an : Option Addr) (cn : Nat) (init : List Int) (nodes : List AN) (l : List PR) (h : MK w W.heap.size M mb pa pc s ai ni ci an nodes.length cn l)
    (hn : NodesAt W an nodes) (ok : AuOk ⟨(s : Int), init, nodes⟩) (i : Nat) (hi : i < nodes.length) (hl : nodes.length ≤ 256) (t : Nat) (hs : s ≤ 16) (ht : t ≤ 16) (hL : l.length + nodes[i].to.length ≤ 90000) :
    Calls Try.prog 17 #[.pointer (some ⟨M, 0, none⟩), .agg #[.int .i64 i, .int .i64 t]] w (Noded w W.heap.size M mb pa pc s ai ni ci an nodes.length cn l (nodeP ⟨(s : Int), init, nodes⟩ l ((i : Int), (t : Int)))) := by
  have hget := nodeAt_get (A := ⟨(s : Int), init, nodes⟩) hi
  simp only at hget
  have hokx := ok.nodes nodes[i] (List.getElem_mem hi)
  obtain ⟨bn, offn, rfl, q0, q1, q2, ax, cx, q3, hto⟩ := hn.at i hi
  have hIS := Lib.hid (fun w' (hb : Below W.heap.size W w') pa np pc (hr : RowAt w' M TM [.int .i64 (s : Int), .slice ai ni ci, .slice (some ⟨bn, offn, none⟩) nodes.length cn, .map (some mb), .slice pa np pc]) (v : Int) (u : Nat) (hu : u ≤ 16) => is_any w' M mb pa pc np (s : Int) ai ni ci (some ⟨bn, offn, none⟩) cn nodes hr (hn.below hb) i hi hl hokx.2.2.1 v u hu)
  have hIS0 := Lib.hid (fun w' (hb : Below W.heap.size W w') pa np pc (hr : RowAt w' M TM [.int .i64 (s : Int), .slice ai ni ci, .slice (some ⟨bn, offn, none⟩) nodes.length cn, .map (some mb), .slice pa np pc]) (v : Int) => is_any w' M mb pa pc np (s : Int) ai ni ci (some ⟨bn, offn, none⟩) cn nodes hr (hn.below hb) i hi hl hokx.2.2.1 v 0 (by omega))
  obtain ⟨T, hT⟩ : ∃ T, T = turnP ⟨(s : Int), init, nodes⟩ ((i : Int), (t : Int)) := ⟨_, rfl⟩
  obtain ⟨I, hI⟩ : ∃ I, I = inP ⟨(s : Int), init, nodes⟩ ((i : Int), (t : Int)) := ⟨_, rfl⟩
  have hP : nodeP ⟨(s : Int), init, nodes⟩ l ((i : Int), (t : Int)) = ((rowP T nodes[i].to (l, [])).1, ⟨nodes[i].need, nodes[i].ban, I, (rowP T nodes[i].to (l, [])).2⟩) := by
    unfold nodeP
    rw [← hT, ← hI, hget]
  rw [hP]
  unfold turnP at hT
  unfold inP at hI
  simp only [hget] at hT hI
  clear hP hget hn
  replace hT := Lib.hid hT
  replace hI := Lib.hid hI
  have hi2 : (i : Int) < (nodes.length : Int) := by omega
  generalize nodes[i] = x at hT hI hIS hIS0 hokx q0 q1 q2 q3 hto hL ⊢
  obtain ⟨xn, xb, xi, xt⟩ := x
  simp only at hT hI hIS hIS0 hokx q0 q1 q2 q3 hto hL ⊢
  obtain ⟨o0, o1, o2, o3, o4⟩ := hokx
  replace o4 := Lib.hid o4
  have hbn := World.block_lt_of_cell? W _ q0
  simp only at hbn
  have hwW := hbW.size
  replace q0 := bcell hbW q0
  replace q1 := bcell hbW q1
  replace q2 := bcell hbW q2
  replace q3 := bcell hbW q3
  have hROW := Lib.hid (fun w' (hb : Below W.heap.size W w') pa pc (h : MK w' W.heap.size M mb pa pc (s : Int) ai ni ci (some ⟨bn, offn, none⟩) nodes.length cn l) (tv : Int) (htv : (Lit.int .i64 tv).wf = true) => row_any w' W.heap.size M mb pa pc (s : Int) ai ni ci (some ⟨bn, offn, none⟩) nodes.length cn l h hb.size ax cx xt (hto.below hb) (fun ad had h0 => by obtain ⟨b', o', x', e', c', _⟩ := hto.at 0 h0; have := World.block_lt_of_cell? W _ c'; rw [e'] at had; cases had; exact this) tv htv (fun q hq => wfI (o4.out q hq)) hL)
  replace hto := Lib.hid hto
  obtain ⟨w1, hw1⟩ : ∃ w1, w1 = (w.alloc (.cells #[.int .i64 (i : Int), .int .i64 (t : Int)] TP)).alloc (.cells #[.int .u64 0, .int .u64 0, .int .u64 0, .slice none 0 0] TN) := ⟨_, rfl⟩
  have hb1 : Below w.heap.size w w1 := by rw [hw1]; exact balloc (balloc (Below.refl _ _) _) _
  have hz1 : w1.heap.size = w.heap.size + 2 := by rw [hw1]; simp
  have h1 := h.below hb1
  have r3 : RowAt w1 w.heap.size TP [.int .i64 (i : Int), .int .i64 (t : Int)] := by rw [hw1]; exact (RowAt.new (w := w) #[.int .i64 (i : Int), .int .i64 (t : Int)] rfl).below (balloc (Below.refl _ _) _)
  have r4 : RowAt w1 (w.heap.size + 1) TN [.int .u64 0, .int .u64 0, .int .u64 0, .slice none 0 0] := by rw [hw1]; exact RowAt.new #[.int .u64 0, .int .u64 0, .int .u64 0, .slice none 0 0] (by simp)
  have HW1 := Lib.hid hw1
  clear hw1
  replace q0 := bcell hb1 q0
  replace q1 := bcell hb1 q1
  replace q2 := bcell hb1 q2
  replace q3 := bcell hb1 q3
  have m0 : w1.cell? ⟨M, 0, none⟩ = some (.int .i64 (s : Int)) := h1.row.cell 0
  have m2 : w1.cell? ⟨M, 2, none⟩ = some (.slice (some ⟨bn, offn, none⟩) nodes.length cn) := h1.row.cell 2
  have b0 : w1.cell? ⟨w.heap.size, 0, none⟩ = some (.int .i64 (i : Int)) := r3.cell 0
  have b1 : w1.cell? ⟨w.heap.size, 1, none⟩ = some (.int .i64 (t : Int)) := r3.cell 1
  have hMl0 := h.row.lt
  have hMl := h1.row.lt
  have hbl : bn < w1.heap.size := by omega
  have hwl : w.heap.size < w1.heap.size := by omega
  replace ok := Lib.hid ok
  have hH := Lib.hid h
  replace h1 := Lib.hid h1
  replace r3 := Lib.hid r3
  replace r4 := Lib.hid r4
  replace hb1 := Lib.hid hb1
  replace hz1 := Lib.hid hz1
  replace hbW := Lib.hid hbW
  clear h
  have hTw : Hid ((Lit.int .i64 T).wf = true) := by
    refine wfI ?_
    have := hT.out
    by_cases hc : 0 < (s : Int) ∧ bitN xi (t : Int) = true
    · rw [if_pos hc] at this
      have h1 := Int.emod_nonneg ((t : Int) + 1) (show (s : Int) ≠ 0 by omega)
      have h2 := Int.emod_lt_of_pos ((t : Int) + 1) hc.1
      omega
    · rw [if_neg hc] at this
      omega
  by_cases hs0 : s = 0
  · subst hs0
    have hT2 : Hid (T = (t : Int)) := by have := hT.out; rwa [if_neg (by simp)] at this
    have hI2 : Hid (I = 1) := by have := hI.out; rwa [if_pos (.inl rfl)] at this
    obtain rfl := hI2.out
    clear hI2 hI
    go_enter Try.func17, Try.ntmps17
    go_wp2
    rw [← HW1.out]
    go_region
    go_wp2_with fail
    have hbA : Below w1.heap.size w1 ((w1.alloc (.cells #[.int .u64 xn, .int .u64 xb, .int .u64 xi, .slice ax xt.length cx] TN)).drew) := (balloc (Below.refl _ _) _).drew
    have h2 := h1.out.below hbA
    have s3 := r3.out.below hbA
    have s4 := r4.out.below hbA
    have s5 : RowAt ((w1.alloc (.cells #[.int .u64 xn, .int .u64 xb, .int .u64 xi, .slice ax xt.length cx] TN)).drew) w1.heap.size TN [.int .u64 xn, .int .u64 xb, .int .u64 xi, .slice ax xt.length cx] := RowAt.new (w := w1) #[.int .u64 xn, .int .u64 xb, .int .u64 xi, .slice ax xt.length cx] rfl
    have hz2 : w1.heap.size < ((w1.alloc (.cells #[.int .u64 xn, .int .u64 xb, .int .u64 xi, .slice ax xt.length cx] TN)).drew).heap.size := by simp
    have hbw2 := btrans hb1.out hbA
    generalize (w1.alloc (.cells #[.int .u64 xn, .int .u64 xb, .int .u64 xi, .slice ax xt.length cx] TN)).drew = w2 at h2 s3 s4 s5 hz2 hbw2 ⊢
    clear hbA m0 m2 b0 b1 q0 q1 q2 q3
    have c0 : w2.cell? ⟨w1.heap.size, 0, none⟩ = some (.int .u64 xn) := s5.cell 0
    have c1 : w2.cell? ⟨w1.heap.size, 1, none⟩ = some (.int .u64 xb) := s5.cell 1
    have c3 : w2.cell? ⟨w1.heap.size, 3, none⟩ = some (.slice ax xt.length cx) := s5.cell 3
    have CR := hROW.out w2.drew (btrans hbW.out hbw2).drew pa pc (h2.below (Below.refl _ _).drew) T hTw.out
    have hbZ : Below w2.heap.size w2 ((w2.alloc (.cells #[.int .u64 0, .int .u64 0, .int .u64 0, .slice none 0 0] TN)).drew) := (balloc (Below.refl _ _) _).drew
    have CS := hROW.out ((w2.alloc (.cells #[.int .u64 0, .int .u64 0, .int .u64 0, .slice none 0 0] TN)).drew) (btrans (btrans hbW.out hbw2) hbZ) pa pc (h2.below hbZ) T hTw.out
    generalize hq : rowP T xt (l, []) = q at CR CS
    obtain ⟨l2, out⟩ := q
    obtain rfl := hT2.out
    replace hq := Lib.hid hq
    replace CR := Lib.hid CR
    replace CS := Lib.hid CS
    have s7 := Lib.hid (RowAt.new (w := w2) (T := TN) #[.int .u64 0, .int .u64 0, .int .u64 0, .slice none 0 0] rfl)
    have hz1' : w.heap.size + 1 < w1.heap.size := by have := hz1.out; omega
    have hhot := Lib.hid (fun j hj => hH.out.hotB (j := j) hj)
    have hn7 : Hid (¬ Hot M mb (.slice pa l.length pc) w2.heap.size) := fun hh => by have := (hhot.out _ hh).2; omega
    have hn5 : Hid (¬ Hot M mb (.slice pa l.length pc) w1.heap.size) := fun hh => by have := (hhot.out _ hh).2; omega
    have hn4 : Hid (¬ Hot M mb (.slice pa l.length pc) (w.heap.size + 1)) := fun hh => by have := (hhot.out _ hh).2; omega
    have hn3 : Hid (¬ Hot M mb (.slice pa l.length pc) w.heap.size) := fun hh => by have := (hhot.out _ hh).2; omega
    have t3 := Lib.hid (s3.below hbZ)
    have t4 := Lib.hid (s4.below hbZ)
    have t5 := Lib.hid (s5.below hbZ)
    have hbX := Lib.hid (btrans hbw2 hbZ)
    replace hbZ := Lib.hid hbZ
    have hne5 : Hid (w2.heap.size ≠ w1.heap.size) := by show _ ≠ _; omega
    go_region_held3 (fun w' => w'.cell? ⟨w1.heap.size, 0, none⟩ = some (.int .u64 xn) ∧ w'.cell? ⟨w1.heap.size, 1, none⟩ = some (.int .u64 xb) ∧ w'.cell? ⟨w1.heap.size, 3, none⟩ = some (.slice ax xt.length cx)) (first | exact ⟨y0, y1, yc⟩ | exact ⟨z6.cell 0, z6.cell 1, z6.cell 3⟩ | exact ⟨z5.cell 0, z5.cell 1, z5.cell 3⟩ | exact ⟨c0, c1, c3⟩ | exact ⟨t5.out.cell 0, t5.out.cell 1, t5.out.cell 3⟩) (first
      | (go_at_call 16; (with_reducible refine CR.out.mono ?_); rintro r wY ⟨ao, co, pa', pc', rfl, hoY, hMY, hKY, hfY, hcY⟩; have hKY2 : Keeps w2 wY (Hot M mb (.slice pa l.length pc)) := ⟨hKY.os, hKY.tape, hKY.output, hKY.size, hKY.block⟩; have y5 := s5.keeps hKY2 hn5.out; have y4 := s4.keeps hKY2 hn4.out; have y3 := s3.keeps hKY2 hn3.out; have y0 : wY.cell? ⟨w1.heap.size, 0, none⟩ = some (.int .u64 xn) := y5.cell 0; have y1 : wY.cell? ⟨w1.heap.size, 1, none⟩ = some (.int .u64 xb) := y5.cell 1; have yc : wY.cell? ⟨w1.heap.size, 3, none⟩ = some (.slice ax xt.length cx) := y5.cell 3; have z5 := y5.alloc (.cells #[.int .u64 xn, .int .u64 xb, .int .u64 0, .slice ao out.length co] TN); have z6 := y5.alloc (.cells #[.int .u64 0, .int .u64 0, .int .u64 0, .slice none 0 0] TN); have hyl := y5.lt; have hzY := hKY2.size)
      | (go_at_call 16; (with_reducible refine CS.out.mono ?_); rintro r wY ⟨ao, co, pa', pc', rfl, goY, hMY, hKY, hfY, hcY⟩; have y5 := t5.out.keeps hKY hn5.out; have y4 := t4.out.keeps hKY hn4.out; have y3 := t3.out.keeps hKY hn3.out; have y7 := RowAt.keeps (w := (w2.alloc (.cells #[.int .u64 0, .int .u64 0, .int .u64 0, .slice none 0 0] TN)).drew) s7.out hKY hn7.out; have y0 : wY.cell? ⟨w1.heap.size, 0, none⟩ = some (.int .u64 xn) := y5.cell 0; have y1 : wY.cell? ⟨w1.heap.size, 1, none⟩ = some (.int .u64 xb) := y5.cell 1; have yc : wY.cell? ⟨w1.heap.size, 3, none⟩ = some (.slice ax xt.length cx) := y5.cell 3; have v0 : wY.cell? ⟨w2.heap.size, 0, none⟩ = some (.int .u64 0) := y7.cell 0; have v1 : wY.cell? ⟨w2.heap.size, 1, none⟩ = some (.int .u64 0) := y7.cell 1; have v2 : wY.cell? ⟨w2.heap.size, 2, none⟩ = some (.int .u64 0) := y7.cell 2; have v3 : wY.cell? ⟨w2.heap.size, 3, none⟩ = some (.slice none 0 0) := y7.cell 3; have u0 := y7.free 0; have u1 := y7.free 1; have u2 := y7.free 2; have u3 := y7.free 3; have z5 := (((y5.kset hne5.out 0 (.int .u64 xn)).kset hne5.out 1 (.int .u64 xb)).kset hne5.out 2 (.int .u64 0)).kset hne5.out 3 (.slice ao out.length co); have hyl := y5.lt; have hzY := hKY.size))
    all_goals clear hT2
    all_goals first
      | (have hoY2 := hoY
         try simp only at hoY hMY hfY hcY
         have hWZ : Below wY.heap.size wY (wY.alloc (.cells #[.int .u64 xn, .int .u64 xb, .int .u64 0, .slice ao out.length co] TN)) := balloc (Below.refl _ _) _
         have K1 : Keeps wY (wY.alloc (.cells #[.int .u64 xn, .int .u64 xb, .int .u64 0, .slice ao out.length co] TN)) (fun j => w.heap.size + 1 ≤ j ∧ j < w2.heap.size) := Keeps.of_below hWZ
         have z4 := y4.below hWZ
         have z3 := y3.below hWZ
         have z7 := RowAt.new (w := wY) (T := TN) #[.int .u64 xn, .int .u64 xb, .int .u64 0, .slice ao out.length co] rfl
         have hMZ := hMY.below hWZ
         have hbx := hbw2
         have hzX : w.heap.size + 1 < w2.heap.size := by omega
         have hnx : ¬ wY.heap.size = w.heap.size + 1 := by omega
         have hS7 : Hid (∀ j, j < wY.heap.size → j = wY.heap.size → w.heap.size + 1 ≤ j ∧ j < w2.heap.size) := fun j h1 h2 => by omega
         generalize wY.alloc (.cells #[.int .u64 xn, .int .u64 xb, .int .u64 0, .slice ao out.length co] TN) = wZ at K1 z3 z4 z7 hMZ ⊢
         clear hWZ
         have hSx := Lib.hid hzX
         clear y0 y1 yc c0 c1 c3
         have m0 : wZ.cell? ⟨M, 0, none⟩ = some (.int .i64 0) := hMZ.row.cell 0
         have k0 : wZ.cell? ⟨wY.heap.size, 0, none⟩ = some (.int .u64 xn) := z7.cell 0
         have k1 : wZ.cell? ⟨wY.heap.size, 1, none⟩ = some (.int .u64 xb) := z7.cell 1
         have k2 : wZ.cell? ⟨wY.heap.size, 2, none⟩ = some (.int .u64 0) := z7.cell 2
         have k3 : wZ.cell? ⟨wY.heap.size, 3, none⟩ = some (.slice ao out.length co) := z7.cell 3
         have kf := z7.free 2
         have e0 : wZ.cell? ⟨w.heap.size + 1, 0, none⟩ = some (.int .u64 0) := z4.cell 0
         have e1 : wZ.cell? ⟨w.heap.size + 1, 1, none⟩ = some (.int .u64 0) := z4.cell 1
         have e2 : wZ.cell? ⟨w.heap.size + 1, 2, none⟩ = some (.int .u64 0) := z4.cell 2
         have e3 : wZ.cell? ⟨w.heap.size + 1, 3, none⟩ = some (.slice none 0 0) := z4.cell 3
         have g0 := z4.free 0
         have g1 := z4.free 1
         have g2 := z4.free 2
         have g3 := z4.free 3
         go_wp2
         have KE := (K1.trans (Keeps.set wZ wY.heap.size 2 (.int .u64 1) (S := fun j => j = wY.heap.size) rfl) hS7.out).trans (keeps4 _ (w.heap.size + 1) (.int .u64 xn) (.int .u64 xb) (.int .u64 1) (.slice ao out.length co)) (fun j _ e => ⟨by omega, by omega⟩)
         refine bodyPost_ret (v := .agg #[.int .u64 xn, .int .u64 xb, .int .u64 1, .slice ao out.length co]) (by simp [results, Try.results17, go_sem, e0, e1, e2, e3]) rfl ?_
         rw [hq.out]
         exact noded_fin hH.out (hbw2.drew) hzX (q := (l2, out)) hoY hMY hKY hfY hcY KE xn xb 1)
      | (have hoY := goY
         try simp only at hoY hMY hfY hcY
         have hzA : ((w2.alloc (.cells #[.int .u64 0, .int .u64 0, .int .u64 0, .slice none 0 0] TN)).drew).heap.size = w2.heap.size + 1 := by simp
         have hzX : w.heap.size + 1 < ((w2.alloc (.cells #[.int .u64 0, .int .u64 0, .int .u64 0, .slice none 0 0] TN)).drew).heap.size := by omega
         have K0 := keeps4 wY w2.heap.size (.int .u64 xn) (.int .u64 xb) (.int .u64 0) (.slice ao out.length co)
         have K1 : Keeps wY _ (fun j => w.heap.size + 1 ≤ j ∧ j < ((w2.alloc (.cells #[.int .u64 0, .int .u64 0, .int .u64 0, .slice none 0 0] TN)).drew).heap.size) := K0.mono (fun j _ e => ⟨by omega, by omega⟩)
         have hne4 : w2.heap.size ≠ w.heap.size + 1 := by omega
         have hne3 : w2.heap.size ≠ w.heap.size := by omega
         have z3 := (((y3.kset hne3 0 (.int .u64 xn)).kset hne3 1 (.int .u64 xb)).kset hne3 2 (.int .u64 0)).kset hne3 3 (.slice ao out.length co)
         have z4 := (((y4.kset hne4 0 (.int .u64 xn)).kset hne4 1 (.int .u64 xb)).kset hne4 2 (.int .u64 0)).kset hne4 3 (.slice ao out.length co)
         have z7 : RowAt ((((wY.setCell ⟨w2.heap.size, 0, none⟩ (.int .u64 xn)).setCell ⟨w2.heap.size, 1, none⟩ (.int .u64 xb)).setCell ⟨w2.heap.size, 2, none⟩ (.int .u64 0)).setCell ⟨w2.heap.size, 3, none⟩ (.slice ao out.length co)) w2.heap.size TN [.int .u64 xn, .int .u64 xb, .int .u64 0, .slice ao out.length co] := (((y7.set 0 (.int .u64 xn)).set 1 (.int .u64 xb)).set 2 (.int .u64 0)).set 3 (.slice ao out.length co)
         have hMZ := hMY.keeps K0 (fun j hj e => by
           subst e
           rcases hj with e | e | e
           · have := hH.out.row.lt; omega
           · have := hH.out.map.lt; omega
           · rcases hfY.out _ e with h1 | h1
             · have := (OwnR.lt hH.out.own h1).2; omega
             · omega)
         have hnx : ¬ w2.heap.size = w.heap.size + 1 := by omega
         have hS7 : Hid (∀ j, j < wY.heap.size → j = w2.heap.size → w.heap.size + 1 ≤ j ∧ j < ((w2.alloc (.cells #[.int .u64 0, .int .u64 0, .int .u64 0, .slice none 0 0] TN)).drew).heap.size) := fun j h1 h2 => by omega
         replace hzA := Lib.hid hzA
         clear K0
         generalize ((((wY.setCell ⟨w2.heap.size, 0, none⟩ (.int .u64 xn)).setCell ⟨w2.heap.size, 1, none⟩ (.int .u64 xb)).setCell ⟨w2.heap.size, 2, none⟩ (.int .u64 0)).setCell ⟨w2.heap.size, 3, none⟩ (.slice ao out.length co)) = wZ at K1 z3 z4 z7 hMZ ⊢
         clear v0 v1 v2 v3 u0 u1 u2 u3
         have hSx := Lib.hid hzX
         clear y0 y1 yc c0 c1 c3
         have m0 : wZ.cell? ⟨M, 0, none⟩ = some (.int .i64 0) := hMZ.row.cell 0
         have k0 : wZ.cell? ⟨w2.heap.size, 0, none⟩ = some (.int .u64 xn) := z7.cell 0
         have k1 : wZ.cell? ⟨w2.heap.size, 1, none⟩ = some (.int .u64 xb) := z7.cell 1
         have k2 : wZ.cell? ⟨w2.heap.size, 2, none⟩ = some (.int .u64 0) := z7.cell 2
         have k3 : wZ.cell? ⟨w2.heap.size, 3, none⟩ = some (.slice ao out.length co) := z7.cell 3
         have kf := z7.free 2
         have e0 : wZ.cell? ⟨w.heap.size + 1, 0, none⟩ = some (.int .u64 0) := z4.cell 0
         have e1 : wZ.cell? ⟨w.heap.size + 1, 1, none⟩ = some (.int .u64 0) := z4.cell 1
         have e2 : wZ.cell? ⟨w.heap.size + 1, 2, none⟩ = some (.int .u64 0) := z4.cell 2
         have e3 : wZ.cell? ⟨w.heap.size + 1, 3, none⟩ = some (.slice none 0 0) := z4.cell 3
         have g0 := z4.free 0
         have g1 := z4.free 1
         have g2 := z4.free 2
         have g3 := z4.free 3
         go_wp2
         have KE := (K1.trans (Keeps.set wZ w2.heap.size 2 (.int .u64 1) (S := fun j => j = w2.heap.size) rfl) hS7.out).trans (keeps4 _ (w.heap.size + 1) (.int .u64 xn) (.int .u64 xb) (.int .u64 1) (.slice ao out.length co)) (fun j _ e => ⟨by omega, by omega⟩)
         refine bodyPost_ret (v := .agg #[.int .u64 xn, .int .u64 xb, .int .u64 1, .slice ao out.length co]) (by simp [results, Try.results17, go_sem, e0, e1, e2, e3]) rfl ?_
         rw [hq.out]
         exact noded_fin hH.out (hbX.out) hzX (q := (l2, out)) hoY hMY hKY hfY hcY KE xn xb 1)
  have hs1 : 0 < (s : Int) := by omega
  cases hbb : bitN xi (t : Int) with
  | true =>
    have hbit := hbb
    have hT2 : Hid (T = ((t : Int) + 1) % (s : Int)) := by have := hT.out; rwa [if_pos ⟨hs1, hbb⟩] at this
    by_cases ht1 : t = 0
    · have hbit0 : Hid (bitN xi 0 = true) := by show _ = _; rw [← hbb, ht1]; rfl
      have hI2 : Hid (I = 1) := by have := hI.out; rwa [if_pos (.inr ⟨by omega, hbit0.out⟩)] at this
      obtain rfl := hI2.out
      clear hI2 hI hbb
      replace ht1 := Lib.hid ht1
      have ht1' : (t : Int) ≤ 0 := by have := ht1.out; omega
      go_enter Try.func17, Try.ntmps17
      go_wp2
      rw [← HW1.out]
      go_region
      go_wp2_with fail
      have hbA : Below w1.heap.size w1 ((w1.alloc (.cells #[.int .u64 xn, .int .u64 xb, .int .u64 xi, .slice ax xt.length cx] TN)).drew) := (balloc (Below.refl _ _) _).drew
      have h2 := h1.out.below hbA
      have s3 := r3.out.below hbA
      have s4 := r4.out.below hbA
      have s5 : RowAt ((w1.alloc (.cells #[.int .u64 xn, .int .u64 xb, .int .u64 xi, .slice ax xt.length cx] TN)).drew) w1.heap.size TN [.int .u64 xn, .int .u64 xb, .int .u64 xi, .slice ax xt.length cx] := RowAt.new (w := w1) #[.int .u64 xn, .int .u64 xb, .int .u64 xi, .slice ax xt.length cx] rfl
      have hz2 : w1.heap.size < ((w1.alloc (.cells #[.int .u64 xn, .int .u64 xb, .int .u64 xi, .slice ax xt.length cx] TN)).drew).heap.size := by simp
      have hbw2 := btrans hb1.out hbA
      generalize (w1.alloc (.cells #[.int .u64 xn, .int .u64 xb, .int .u64 xi, .slice ax xt.length cx] TN)).drew = w2 at h2 s3 s4 s5 hz2 hbw2 ⊢
      clear hbA m0 m2 b0 b1 q0 q1 q2 q3
      have CI := hIS.out w2 (btrans hbW.out hbw2) pa l.length pc h2.row (t : Int) t ht
      rw [hbit] at CI
      replace CI := Lib.hid CI
      refine CI.out.mono ?_
      rintro e w3 ⟨rfl, hb3⟩
      replace hbw2 := btrans hbw2 hb3
      replace hz2 := Nat.lt_of_lt_of_le hz2 hb3.size
      replace h2 := h2.below hb3
      replace s3 := s3.below hb3
      replace s4 := s4.below hb3
      replace s5 := s5.below hb3
      clear CI hb3
      have m0 : w3.cell? ⟨M, 0, none⟩ = some (.int .i64 (s : Int)) := h2.row.cell 0
      have b1 : w3.cell? ⟨w.heap.size, 1, none⟩ = some (.int .i64 (t : Int)) := s3.cell 1
      have hw1 : IntKind.i64.wrap ((t : Int) + 1) = (t : Int) + 1 := IntWalk.i64_in _ (by omega)
      have htm : ((t : Int) + 1).tmod (s : Int) = ((t : Int) + 1) % (s : Int) := Int.tmod_eq_emod_of_nonneg (by omega)
      have hsn : ((s : Int) == 0) = false := by simp; omega
      go_wp2
      go_quiet (fail)
      have hq : Below w3.heap.size w3 (w3.drewN nq) := bdrewN (Below.refl _ _) nq
      replace hbw2 := btrans hbw2 hq
      replace hz2 := Nat.lt_of_lt_of_le hz2 hq.size
      replace h2 := h2.below hq
      replace s3 := s3.below hq
      replace s4 := s4.below hq
      replace s5 := s5.below hq
      clear hq m0 b1
      go_wp2
      generalize w3.drewN nq = w2 at h2 s3 s4 s5 hz2 hbw2 ⊢
      clear htm hw1 hsn
      have c0 : w2.cell? ⟨w1.heap.size, 0, none⟩ = some (.int .u64 xn) := s5.cell 0
      have c1 : w2.cell? ⟨w1.heap.size, 1, none⟩ = some (.int .u64 xb) := s5.cell 1
      have c3 : w2.cell? ⟨w1.heap.size, 3, none⟩ = some (.slice ax xt.length cx) := s5.cell 3
      have CR := hROW.out w2.drew (btrans hbW.out hbw2).drew pa pc (h2.below (Below.refl _ _).drew) T hTw.out
      have hbZ : Below w2.heap.size w2 ((w2.alloc (.cells #[.int .u64 0, .int .u64 0, .int .u64 0, .slice none 0 0] TN)).drew) := (balloc (Below.refl _ _) _).drew
      have CS := hROW.out ((w2.alloc (.cells #[.int .u64 0, .int .u64 0, .int .u64 0, .slice none 0 0] TN)).drew) (btrans (btrans hbW.out hbw2) hbZ) pa pc (h2.below hbZ) T hTw.out
      generalize hq : rowP T xt (l, []) = q at CR CS
      obtain ⟨l2, out⟩ := q
      obtain rfl := hT2.out
      replace hq := Lib.hid hq
      replace CR := Lib.hid CR
      replace CS := Lib.hid CS
      have s7 := Lib.hid (RowAt.new (w := w2) (T := TN) #[.int .u64 0, .int .u64 0, .int .u64 0, .slice none 0 0] rfl)
      have hz1' : w.heap.size + 1 < w1.heap.size := by have := hz1.out; omega
      have hhot := Lib.hid (fun j hj => hH.out.hotB (j := j) hj)
      have hn7 : Hid (¬ Hot M mb (.slice pa l.length pc) w2.heap.size) := fun hh => by have := (hhot.out _ hh).2; omega
      have hn5 : Hid (¬ Hot M mb (.slice pa l.length pc) w1.heap.size) := fun hh => by have := (hhot.out _ hh).2; omega
      have hn4 : Hid (¬ Hot M mb (.slice pa l.length pc) (w.heap.size + 1)) := fun hh => by have := (hhot.out _ hh).2; omega
      have hn3 : Hid (¬ Hot M mb (.slice pa l.length pc) w.heap.size) := fun hh => by have := (hhot.out _ hh).2; omega
      have t3 := Lib.hid (s3.below hbZ)
      have t4 := Lib.hid (s4.below hbZ)
      have t5 := Lib.hid (s5.below hbZ)
      have hbX := Lib.hid (btrans hbw2 hbZ)
      replace hbZ := Lib.hid hbZ
      have hne5 : Hid (w2.heap.size ≠ w1.heap.size) := by show _ ≠ _; omega
      go_region_held3 (fun w' => w'.cell? ⟨w1.heap.size, 0, none⟩ = some (.int .u64 xn) ∧ w'.cell? ⟨w1.heap.size, 1, none⟩ = some (.int .u64 xb) ∧ w'.cell? ⟨w1.heap.size, 3, none⟩ = some (.slice ax xt.length cx)) (first | exact ⟨y0, y1, yc⟩ | exact ⟨z6.cell 0, z6.cell 1, z6.cell 3⟩ | exact ⟨z5.cell 0, z5.cell 1, z5.cell 3⟩ | exact ⟨c0, c1, c3⟩ | exact ⟨t5.out.cell 0, t5.out.cell 1, t5.out.cell 3⟩) (first
        | (go_at_call 16; (with_reducible refine CR.out.mono ?_); rintro r wY ⟨ao, co, pa', pc', rfl, hoY, hMY, hKY, hfY, hcY⟩; have hKY2 : Keeps w2 wY (Hot M mb (.slice pa l.length pc)) := ⟨hKY.os, hKY.tape, hKY.output, hKY.size, hKY.block⟩; have y5 := s5.keeps hKY2 hn5.out; have y4 := s4.keeps hKY2 hn4.out; have y3 := s3.keeps hKY2 hn3.out; have y0 : wY.cell? ⟨w1.heap.size, 0, none⟩ = some (.int .u64 xn) := y5.cell 0; have y1 : wY.cell? ⟨w1.heap.size, 1, none⟩ = some (.int .u64 xb) := y5.cell 1; have yc : wY.cell? ⟨w1.heap.size, 3, none⟩ = some (.slice ax xt.length cx) := y5.cell 3; have z5 := y5.alloc (.cells #[.int .u64 xn, .int .u64 xb, .int .u64 0, .slice ao out.length co] TN); have z6 := y5.alloc (.cells #[.int .u64 0, .int .u64 0, .int .u64 0, .slice none 0 0] TN); have hyl := y5.lt; have hzY := hKY2.size)
        | (go_at_call 16; (with_reducible refine CS.out.mono ?_); rintro r wY ⟨ao, co, pa', pc', rfl, goY, hMY, hKY, hfY, hcY⟩; have y5 := t5.out.keeps hKY hn5.out; have y4 := t4.out.keeps hKY hn4.out; have y3 := t3.out.keeps hKY hn3.out; have y7 := RowAt.keeps (w := (w2.alloc (.cells #[.int .u64 0, .int .u64 0, .int .u64 0, .slice none 0 0] TN)).drew) s7.out hKY hn7.out; have y0 : wY.cell? ⟨w1.heap.size, 0, none⟩ = some (.int .u64 xn) := y5.cell 0; have y1 : wY.cell? ⟨w1.heap.size, 1, none⟩ = some (.int .u64 xb) := y5.cell 1; have yc : wY.cell? ⟨w1.heap.size, 3, none⟩ = some (.slice ax xt.length cx) := y5.cell 3; have v0 : wY.cell? ⟨w2.heap.size, 0, none⟩ = some (.int .u64 0) := y7.cell 0; have v1 : wY.cell? ⟨w2.heap.size, 1, none⟩ = some (.int .u64 0) := y7.cell 1; have v2 : wY.cell? ⟨w2.heap.size, 2, none⟩ = some (.int .u64 0) := y7.cell 2; have v3 : wY.cell? ⟨w2.heap.size, 3, none⟩ = some (.slice none 0 0) := y7.cell 3; have u0 := y7.free 0; have u1 := y7.free 1; have u2 := y7.free 2; have u3 := y7.free 3; have z5 := (((y5.kset hne5.out 0 (.int .u64 xn)).kset hne5.out 1 (.int .u64 xb)).kset hne5.out 2 (.int .u64 0)).kset hne5.out 3 (.slice ao out.length co); have hyl := y5.lt; have hzY := hKY.size))
      all_goals clear hT2
      all_goals first
        | (have hoY2 := hoY
           try simp only at hoY hMY hfY hcY
           have hWZ : Below wY.heap.size wY (wY.alloc (.cells #[.int .u64 xn, .int .u64 xb, .int .u64 0, .slice ao out.length co] TN)) := balloc (Below.refl _ _) _
           have K1 : Keeps wY (wY.alloc (.cells #[.int .u64 xn, .int .u64 xb, .int .u64 0, .slice ao out.length co] TN)) (fun j => w.heap.size + 1 ≤ j ∧ j < w2.heap.size) := Keeps.of_below hWZ
           have z4 := y4.below hWZ
           have z3 := y3.below hWZ
           have z7 := RowAt.new (w := wY) (T := TN) #[.int .u64 xn, .int .u64 xb, .int .u64 0, .slice ao out.length co] rfl
           have hMZ := hMY.below hWZ
           have hbx := hbw2
           have hzX : w.heap.size + 1 < w2.heap.size := by omega
           have hnx : ¬ wY.heap.size = w.heap.size + 1 := by omega
           have hS7 : Hid (∀ j, j < wY.heap.size → j = wY.heap.size → w.heap.size + 1 ≤ j ∧ j < w2.heap.size) := fun j h1 h2 => by omega
           generalize wY.alloc (.cells #[.int .u64 xn, .int .u64 xb, .int .u64 0, .slice ao out.length co] TN) = wZ at K1 z3 z4 z7 hMZ ⊢
           clear hWZ
           have hSx := Lib.hid hzX
           clear y0 y1 yc c0 c1 c3
           have m0 : wZ.cell? ⟨M, 0, none⟩ = some (.int .i64 (s : Int)) := hMZ.row.cell 0
           have k0 : wZ.cell? ⟨wY.heap.size, 0, none⟩ = some (.int .u64 xn) := z7.cell 0
           have k1 : wZ.cell? ⟨wY.heap.size, 1, none⟩ = some (.int .u64 xb) := z7.cell 1
           have k2 : wZ.cell? ⟨wY.heap.size, 2, none⟩ = some (.int .u64 0) := z7.cell 2
           have k3 : wZ.cell? ⟨wY.heap.size, 3, none⟩ = some (.slice ao out.length co) := z7.cell 3
           have kf := z7.free 2
           have e0 : wZ.cell? ⟨w.heap.size + 1, 0, none⟩ = some (.int .u64 0) := z4.cell 0
           have e1 : wZ.cell? ⟨w.heap.size + 1, 1, none⟩ = some (.int .u64 0) := z4.cell 1
           have e2 : wZ.cell? ⟨w.heap.size + 1, 2, none⟩ = some (.int .u64 0) := z4.cell 2
           have e3 : wZ.cell? ⟨w.heap.size + 1, 3, none⟩ = some (.slice none 0 0) := z4.cell 3
           have g0 := z4.free 0
           have g1 := z4.free 1
           have g2 := z4.free 2
           have g3 := z4.free 3
           have hsn : ((s : Int) == 0) = false := by simp; omega
           have ht0 : ((t : Int) == 0) = true := by simp; omega
           have x0 : wZ.cell? ⟨w.heap.size, 0, none⟩ = some (.int .i64 (i : Int)) := z3.cell 0
           have x1 : wZ.cell? ⟨w.heap.size, 1, none⟩ = some (.int .i64 (t : Int)) := z3.cell 1
           have hbWY := hKY.below (btrans hbW.out hbw2.drew) (fun j hj => (hH.out.hotB hj).1)
           have hwW0 := hbW.out.size
           have hbWZ := K1.below hbWY (fun j hj => by omega)
           have CJ := hIS0.out wZ hbWZ pa' l2.length pc' hMZ.row (t : Int)
           rw [show ((0 : Nat) : Int) = 0 from rfl, hbit0.out] at CJ
           replace CJ := Lib.hid CJ
           clear hbWY hbWZ
           go_wp2_with fail
           refine CJ.out.mono ?_
           rintro e w6 ⟨rfl, hb6⟩
           have K2 := K1.trans (Keeps.of_below (S := fun _ => False) hb6) (fun _ _ h => h.elim)
           replace z4 := z4.below hb6
           replace z7 := z7.below hb6
           clear k0 k1 k2 k3 kf e0 e1 e2 e3 g0 g1 g2 g3 m0 x0 x1 CJ hb6
           have k0 : w6.cell? ⟨wY.heap.size, 0, none⟩ = some (.int .u64 xn) := z7.cell 0
           have k1 : w6.cell? ⟨wY.heap.size, 1, none⟩ = some (.int .u64 xb) := z7.cell 1
           have k2 : w6.cell? ⟨wY.heap.size, 2, none⟩ = some (.int .u64 0) := z7.cell 2
           have k3 : w6.cell? ⟨wY.heap.size, 3, none⟩ = some (.slice ao out.length co) := z7.cell 3
           have kf := z7.free 2
           have e0 : w6.cell? ⟨w.heap.size + 1, 0, none⟩ = some (.int .u64 0) := z4.cell 0
           have e1 : w6.cell? ⟨w.heap.size + 1, 1, none⟩ = some (.int .u64 0) := z4.cell 1
           have e2 : w6.cell? ⟨w.heap.size + 1, 2, none⟩ = some (.int .u64 0) := z4.cell 2
           have e3 : w6.cell? ⟨w.heap.size + 1, 3, none⟩ = some (.slice none 0 0) := z4.cell 3
           have g0 := z4.free 0
           have g1 := z4.free 1
           have g2 := z4.free 2
           have g3 := z4.free 3
           go_wp2
           have KE := (K2.trans (Keeps.set w6 wY.heap.size 2 (.int .u64 1) (S := fun j => j = wY.heap.size) rfl) hS7.out).trans (keeps4 _ (w.heap.size + 1) (.int .u64 xn) (.int .u64 xb) (.int .u64 1) (.slice ao out.length co)) (fun j _ e => ⟨by omega, by omega⟩)
           refine bodyPost_ret (v := .agg #[.int .u64 xn, .int .u64 xb, .int .u64 1, .slice ao out.length co]) (by simp [results, Try.results17, go_sem, e0, e1, e2, e3]) rfl ?_
           rw [hq.out]
           exact noded_fin hH.out (hbw2.drew) hzX (q := (l2, out)) hoY hMY hKY hfY hcY KE xn xb 1)
        | (have hoY := goY
           try simp only at hoY hMY hfY hcY
           have hzA : ((w2.alloc (.cells #[.int .u64 0, .int .u64 0, .int .u64 0, .slice none 0 0] TN)).drew).heap.size = w2.heap.size + 1 := by simp
           have hzX : w.heap.size + 1 < ((w2.alloc (.cells #[.int .u64 0, .int .u64 0, .int .u64 0, .slice none 0 0] TN)).drew).heap.size := by omega
           have K0 := keeps4 wY w2.heap.size (.int .u64 xn) (.int .u64 xb) (.int .u64 0) (.slice ao out.length co)
           have K1 : Keeps wY _ (fun j => w.heap.size + 1 ≤ j ∧ j < ((w2.alloc (.cells #[.int .u64 0, .int .u64 0, .int .u64 0, .slice none 0 0] TN)).drew).heap.size) := K0.mono (fun j _ e => ⟨by omega, by omega⟩)
           have hne4 : w2.heap.size ≠ w.heap.size + 1 := by omega
           have hne3 : w2.heap.size ≠ w.heap.size := by omega
           have z3 := (((y3.kset hne3 0 (.int .u64 xn)).kset hne3 1 (.int .u64 xb)).kset hne3 2 (.int .u64 0)).kset hne3 3 (.slice ao out.length co)
           have z4 := (((y4.kset hne4 0 (.int .u64 xn)).kset hne4 1 (.int .u64 xb)).kset hne4 2 (.int .u64 0)).kset hne4 3 (.slice ao out.length co)
           have z7 : RowAt ((((wY.setCell ⟨w2.heap.size, 0, none⟩ (.int .u64 xn)).setCell ⟨w2.heap.size, 1, none⟩ (.int .u64 xb)).setCell ⟨w2.heap.size, 2, none⟩ (.int .u64 0)).setCell ⟨w2.heap.size, 3, none⟩ (.slice ao out.length co)) w2.heap.size TN [.int .u64 xn, .int .u64 xb, .int .u64 0, .slice ao out.length co] := (((y7.set 0 (.int .u64 xn)).set 1 (.int .u64 xb)).set 2 (.int .u64 0)).set 3 (.slice ao out.length co)
           have hMZ := hMY.keeps K0 (fun j hj e => by
             subst e
             rcases hj with e | e | e
             · have := hH.out.row.lt; omega
             · have := hH.out.map.lt; omega
             · rcases hfY.out _ e with h1 | h1
               · have := (OwnR.lt hH.out.own h1).2; omega
               · omega)
           have hnx : ¬ w2.heap.size = w.heap.size + 1 := by omega
           have hS7 : Hid (∀ j, j < wY.heap.size → j = w2.heap.size → w.heap.size + 1 ≤ j ∧ j < ((w2.alloc (.cells #[.int .u64 0, .int .u64 0, .int .u64 0, .slice none 0 0] TN)).drew).heap.size) := fun j h1 h2 => by omega
           replace hzA := Lib.hid hzA
           clear K0
           generalize ((((wY.setCell ⟨w2.heap.size, 0, none⟩ (.int .u64 xn)).setCell ⟨w2.heap.size, 1, none⟩ (.int .u64 xb)).setCell ⟨w2.heap.size, 2, none⟩ (.int .u64 0)).setCell ⟨w2.heap.size, 3, none⟩ (.slice ao out.length co)) = wZ at K1 z3 z4 z7 hMZ ⊢
           clear v0 v1 v2 v3 u0 u1 u2 u3
           have hSx := Lib.hid hzX
           clear y0 y1 yc c0 c1 c3
           have m0 : wZ.cell? ⟨M, 0, none⟩ = some (.int .i64 (s : Int)) := hMZ.row.cell 0
           have k0 : wZ.cell? ⟨w2.heap.size, 0, none⟩ = some (.int .u64 xn) := z7.cell 0
           have k1 : wZ.cell? ⟨w2.heap.size, 1, none⟩ = some (.int .u64 xb) := z7.cell 1
           have k2 : wZ.cell? ⟨w2.heap.size, 2, none⟩ = some (.int .u64 0) := z7.cell 2
           have k3 : wZ.cell? ⟨w2.heap.size, 3, none⟩ = some (.slice ao out.length co) := z7.cell 3
           have kf := z7.free 2
           have e0 : wZ.cell? ⟨w.heap.size + 1, 0, none⟩ = some (.int .u64 0) := z4.cell 0
           have e1 : wZ.cell? ⟨w.heap.size + 1, 1, none⟩ = some (.int .u64 0) := z4.cell 1
           have e2 : wZ.cell? ⟨w.heap.size + 1, 2, none⟩ = some (.int .u64 0) := z4.cell 2
           have e3 : wZ.cell? ⟨w.heap.size + 1, 3, none⟩ = some (.slice none 0 0) := z4.cell 3
           have g0 := z4.free 0
           have g1 := z4.free 1
           have g2 := z4.free 2
           have g3 := z4.free 3
           have hsn : ((s : Int) == 0) = false := by simp; omega
           have ht0 : ((t : Int) == 0) = true := by simp; omega
           have x0 : wZ.cell? ⟨w.heap.size, 0, none⟩ = some (.int .i64 (i : Int)) := z3.cell 0
           have x1 : wZ.cell? ⟨w.heap.size, 1, none⟩ = some (.int .i64 (t : Int)) := z3.cell 1
           have hbWY := hKY.below (btrans hbW.out hbX.out) (fun j hj => (hH.out.hotB hj).1)
           have hwW0 := hbW.out.size
           have hbWZ := K1.below hbWY (fun j hj => by omega)
           have CJ := hIS0.out wZ hbWZ pa' l2.length pc' hMZ.row (t : Int)
           rw [show ((0 : Nat) : Int) = 0 from rfl, hbit0.out] at CJ
           replace CJ := Lib.hid CJ
           clear hbWY hbWZ
           go_wp2_with fail
           refine CJ.out.mono ?_
           rintro e w6 ⟨rfl, hb6⟩
           have K2 := K1.trans (Keeps.of_below (S := fun _ => False) hb6) (fun _ _ h => h.elim)
           replace z4 := z4.below hb6
           replace z7 := z7.below hb6
           clear k0 k1 k2 k3 kf e0 e1 e2 e3 g0 g1 g2 g3 m0 x0 x1 CJ hb6
           have k0 : w6.cell? ⟨w2.heap.size, 0, none⟩ = some (.int .u64 xn) := z7.cell 0
           have k1 : w6.cell? ⟨w2.heap.size, 1, none⟩ = some (.int .u64 xb) := z7.cell 1
           have k2 : w6.cell? ⟨w2.heap.size, 2, none⟩ = some (.int .u64 0) := z7.cell 2
           have k3 : w6.cell? ⟨w2.heap.size, 3, none⟩ = some (.slice ao out.length co) := z7.cell 3
           have kf := z7.free 2
           have e0 : w6.cell? ⟨w.heap.size + 1, 0, none⟩ = some (.int .u64 0) := z4.cell 0
           have e1 : w6.cell? ⟨w.heap.size + 1, 1, none⟩ = some (.int .u64 0) := z4.cell 1
           have e2 : w6.cell? ⟨w.heap.size + 1, 2, none⟩ = some (.int .u64 0) := z4.cell 2
           have e3 : w6.cell? ⟨w.heap.size + 1, 3, none⟩ = some (.slice none 0 0) := z4.cell 3
           have g0 := z4.free 0
           have g1 := z4.free 1
           have g2 := z4.free 2
           have g3 := z4.free 3
           go_wp2
           have KE := (K2.trans (Keeps.set w6 w2.heap.size 2 (.int .u64 1) (S := fun j => j = w2.heap.size) rfl) hS7.out).trans (keeps4 _ (w.heap.size + 1) (.int .u64 xn) (.int .u64 xb) (.int .u64 1) (.slice ao out.length co)) (fun j _ e => ⟨by omega, by omega⟩)
           refine bodyPost_ret (v := .agg #[.int .u64 xn, .int .u64 xb, .int .u64 1, .slice ao out.length co]) (by simp [results, Try.results17, go_sem, e0, e1, e2, e3]) rfl ?_
           rw [hq.out]
           exact noded_fin hH.out (hbX.out) hzX (q := (l2, out)) hoY hMY hKY hfY hcY KE xn xb 1)
    · have hI2 : Hid (I = 0) := by have := hI.out; rwa [if_neg (by omega)] at this
      obtain rfl := hI2.out
      clear hI2 hI hbb
      have ht1' : 0 < (t : Int) := by omega
      go_enter Try.func17, Try.ntmps17
      go_wp2
      rw [← HW1.out]
      go_region
      go_wp2_with fail
      have hbA : Below w1.heap.size w1 ((w1.alloc (.cells #[.int .u64 xn, .int .u64 xb, .int .u64 xi, .slice ax xt.length cx] TN)).drew) := (balloc (Below.refl _ _) _).drew
      have h2 := h1.out.below hbA
      have s3 := r3.out.below hbA
      have s4 := r4.out.below hbA
      have s5 : RowAt ((w1.alloc (.cells #[.int .u64 xn, .int .u64 xb, .int .u64 xi, .slice ax xt.length cx] TN)).drew) w1.heap.size TN [.int .u64 xn, .int .u64 xb, .int .u64 xi, .slice ax xt.length cx] := RowAt.new (w := w1) #[.int .u64 xn, .int .u64 xb, .int .u64 xi, .slice ax xt.length cx] rfl
      have hz2 : w1.heap.size < ((w1.alloc (.cells #[.int .u64 xn, .int .u64 xb, .int .u64 xi, .slice ax xt.length cx] TN)).drew).heap.size := by simp
      have hbw2 := btrans hb1.out hbA
      generalize (w1.alloc (.cells #[.int .u64 xn, .int .u64 xb, .int .u64 xi, .slice ax xt.length cx] TN)).drew = w2 at h2 s3 s4 s5 hz2 hbw2 ⊢
      clear hbA m0 m2 b0 b1 q0 q1 q2 q3
      have CI := hIS.out w2 (btrans hbW.out hbw2) pa l.length pc h2.row (t : Int) t ht
      rw [hbit] at CI
      replace CI := Lib.hid CI
      refine CI.out.mono ?_
      rintro e w3 ⟨rfl, hb3⟩
      replace hbw2 := btrans hbw2 hb3
      replace hz2 := Nat.lt_of_lt_of_le hz2 hb3.size
      replace h2 := h2.below hb3
      replace s3 := s3.below hb3
      replace s4 := s4.below hb3
      replace s5 := s5.below hb3
      clear CI hb3
      have m0 : w3.cell? ⟨M, 0, none⟩ = some (.int .i64 (s : Int)) := h2.row.cell 0
      have b1 : w3.cell? ⟨w.heap.size, 1, none⟩ = some (.int .i64 (t : Int)) := s3.cell 1
      have hw1 : IntKind.i64.wrap ((t : Int) + 1) = (t : Int) + 1 := IntWalk.i64_in _ (by omega)
      have htm : ((t : Int) + 1).tmod (s : Int) = ((t : Int) + 1) % (s : Int) := Int.tmod_eq_emod_of_nonneg (by omega)
      have hsn : ((s : Int) == 0) = false := by simp; omega
      go_wp2
      go_quiet (fail)
      have hq : Below w3.heap.size w3 (w3.drewN nq) := bdrewN (Below.refl _ _) nq
      replace hbw2 := btrans hbw2 hq
      replace hz2 := Nat.lt_of_lt_of_le hz2 hq.size
      replace h2 := h2.below hq
      replace s3 := s3.below hq
      replace s4 := s4.below hq
      replace s5 := s5.below hq
      clear hq m0 b1
      go_wp2
      generalize w3.drewN nq = w2 at h2 s3 s4 s5 hz2 hbw2 ⊢
      clear htm hw1 hsn
      have c0 : w2.cell? ⟨w1.heap.size, 0, none⟩ = some (.int .u64 xn) := s5.cell 0
      have c1 : w2.cell? ⟨w1.heap.size, 1, none⟩ = some (.int .u64 xb) := s5.cell 1
      have c3 : w2.cell? ⟨w1.heap.size, 3, none⟩ = some (.slice ax xt.length cx) := s5.cell 3
      have CR := hROW.out w2.drew (btrans hbW.out hbw2).drew pa pc (h2.below (Below.refl _ _).drew) T hTw.out
      have hbZ : Below w2.heap.size w2 ((w2.alloc (.cells #[.int .u64 0, .int .u64 0, .int .u64 0, .slice none 0 0] TN)).drew) := (balloc (Below.refl _ _) _).drew
      have CS := hROW.out ((w2.alloc (.cells #[.int .u64 0, .int .u64 0, .int .u64 0, .slice none 0 0] TN)).drew) (btrans (btrans hbW.out hbw2) hbZ) pa pc (h2.below hbZ) T hTw.out
      generalize hq : rowP T xt (l, []) = q at CR CS
      obtain ⟨l2, out⟩ := q
      obtain rfl := hT2.out
      replace hq := Lib.hid hq
      replace CR := Lib.hid CR
      replace CS := Lib.hid CS
      have s7 := Lib.hid (RowAt.new (w := w2) (T := TN) #[.int .u64 0, .int .u64 0, .int .u64 0, .slice none 0 0] rfl)
      have hz1' : w.heap.size + 1 < w1.heap.size := by have := hz1.out; omega
      have hhot := Lib.hid (fun j hj => hH.out.hotB (j := j) hj)
      have hn7 : Hid (¬ Hot M mb (.slice pa l.length pc) w2.heap.size) := fun hh => by have := (hhot.out _ hh).2; omega
      have hn5 : Hid (¬ Hot M mb (.slice pa l.length pc) w1.heap.size) := fun hh => by have := (hhot.out _ hh).2; omega
      have hn4 : Hid (¬ Hot M mb (.slice pa l.length pc) (w.heap.size + 1)) := fun hh => by have := (hhot.out _ hh).2; omega
      have hn3 : Hid (¬ Hot M mb (.slice pa l.length pc) w.heap.size) := fun hh => by have := (hhot.out _ hh).2; omega
      have t3 := Lib.hid (s3.below hbZ)
      have t4 := Lib.hid (s4.below hbZ)
      have t5 := Lib.hid (s5.below hbZ)
      have hbX := Lib.hid (btrans hbw2 hbZ)
      replace hbZ := Lib.hid hbZ
      have hne5 : Hid (w2.heap.size ≠ w1.heap.size) := by show _ ≠ _; omega
      go_region_held3 (fun w' => w'.cell? ⟨w1.heap.size, 0, none⟩ = some (.int .u64 xn) ∧ w'.cell? ⟨w1.heap.size, 1, none⟩ = some (.int .u64 xb) ∧ w'.cell? ⟨w1.heap.size, 3, none⟩ = some (.slice ax xt.length cx)) (first | exact ⟨y0, y1, yc⟩ | exact ⟨z6.cell 0, z6.cell 1, z6.cell 3⟩ | exact ⟨z5.cell 0, z5.cell 1, z5.cell 3⟩ | exact ⟨c0, c1, c3⟩ | exact ⟨t5.out.cell 0, t5.out.cell 1, t5.out.cell 3⟩) (first
        | (go_at_call 16; (with_reducible refine CR.out.mono ?_); rintro r wY ⟨ao, co, pa', pc', rfl, hoY, hMY, hKY, hfY, hcY⟩; have hKY2 : Keeps w2 wY (Hot M mb (.slice pa l.length pc)) := ⟨hKY.os, hKY.tape, hKY.output, hKY.size, hKY.block⟩; have y5 := s5.keeps hKY2 hn5.out; have y4 := s4.keeps hKY2 hn4.out; have y3 := s3.keeps hKY2 hn3.out; have y0 : wY.cell? ⟨w1.heap.size, 0, none⟩ = some (.int .u64 xn) := y5.cell 0; have y1 : wY.cell? ⟨w1.heap.size, 1, none⟩ = some (.int .u64 xb) := y5.cell 1; have yc : wY.cell? ⟨w1.heap.size, 3, none⟩ = some (.slice ax xt.length cx) := y5.cell 3; have z5 := y5.alloc (.cells #[.int .u64 xn, .int .u64 xb, .int .u64 0, .slice ao out.length co] TN); have z6 := y5.alloc (.cells #[.int .u64 0, .int .u64 0, .int .u64 0, .slice none 0 0] TN); have hyl := y5.lt; have hzY := hKY2.size)
        | (go_at_call 16; (with_reducible refine CS.out.mono ?_); rintro r wY ⟨ao, co, pa', pc', rfl, goY, hMY, hKY, hfY, hcY⟩; have y5 := t5.out.keeps hKY hn5.out; have y4 := t4.out.keeps hKY hn4.out; have y3 := t3.out.keeps hKY hn3.out; have y7 := RowAt.keeps (w := (w2.alloc (.cells #[.int .u64 0, .int .u64 0, .int .u64 0, .slice none 0 0] TN)).drew) s7.out hKY hn7.out; have y0 : wY.cell? ⟨w1.heap.size, 0, none⟩ = some (.int .u64 xn) := y5.cell 0; have y1 : wY.cell? ⟨w1.heap.size, 1, none⟩ = some (.int .u64 xb) := y5.cell 1; have yc : wY.cell? ⟨w1.heap.size, 3, none⟩ = some (.slice ax xt.length cx) := y5.cell 3; have v0 : wY.cell? ⟨w2.heap.size, 0, none⟩ = some (.int .u64 0) := y7.cell 0; have v1 : wY.cell? ⟨w2.heap.size, 1, none⟩ = some (.int .u64 0) := y7.cell 1; have v2 : wY.cell? ⟨w2.heap.size, 2, none⟩ = some (.int .u64 0) := y7.cell 2; have v3 : wY.cell? ⟨w2.heap.size, 3, none⟩ = some (.slice none 0 0) := y7.cell 3; have u0 := y7.free 0; have u1 := y7.free 1; have u2 := y7.free 2; have u3 := y7.free 3; have z5 := (((y5.kset hne5.out 0 (.int .u64 xn)).kset hne5.out 1 (.int .u64 xb)).kset hne5.out 2 (.int .u64 0)).kset hne5.out 3 (.slice ao out.length co); have hyl := y5.lt; have hzY := hKY.size))
      all_goals clear hT2
      all_goals first
        | (have hoY2 := hoY
           try simp only at hoY hMY hfY hcY
           have hWZ : Below wY.heap.size wY (wY.alloc (.cells #[.int .u64 xn, .int .u64 xb, .int .u64 0, .slice ao out.length co] TN)) := balloc (Below.refl _ _) _
           have K1 : Keeps wY (wY.alloc (.cells #[.int .u64 xn, .int .u64 xb, .int .u64 0, .slice ao out.length co] TN)) (fun j => w.heap.size + 1 ≤ j ∧ j < w2.heap.size) := Keeps.of_below hWZ
           have z4 := y4.below hWZ
           have z3 := y3.below hWZ
           have z7 := RowAt.new (w := wY) (T := TN) #[.int .u64 xn, .int .u64 xb, .int .u64 0, .slice ao out.length co] rfl
           have hMZ := hMY.below hWZ
           have hbx := hbw2
           have hzX : w.heap.size + 1 < w2.heap.size := by omega
           have hnx : ¬ wY.heap.size = w.heap.size + 1 := by omega
           have hS7 : Hid (∀ j, j < wY.heap.size → j = wY.heap.size → w.heap.size + 1 ≤ j ∧ j < w2.heap.size) := fun j h1 h2 => by omega
           generalize wY.alloc (.cells #[.int .u64 xn, .int .u64 xb, .int .u64 0, .slice ao out.length co] TN) = wZ at K1 z3 z4 z7 hMZ ⊢
           clear hWZ
           have hSx := Lib.hid hzX
           clear y0 y1 yc c0 c1 c3
           have m0 : wZ.cell? ⟨M, 0, none⟩ = some (.int .i64 (s : Int)) := hMZ.row.cell 0
           have k0 : wZ.cell? ⟨wY.heap.size, 0, none⟩ = some (.int .u64 xn) := z7.cell 0
           have k1 : wZ.cell? ⟨wY.heap.size, 1, none⟩ = some (.int .u64 xb) := z7.cell 1
           have k2 : wZ.cell? ⟨wY.heap.size, 2, none⟩ = some (.int .u64 0) := z7.cell 2
           have k3 : wZ.cell? ⟨wY.heap.size, 3, none⟩ = some (.slice ao out.length co) := z7.cell 3
           have kf := z7.free 2
           have e0 : wZ.cell? ⟨w.heap.size + 1, 0, none⟩ = some (.int .u64 0) := z4.cell 0
           have e1 : wZ.cell? ⟨w.heap.size + 1, 1, none⟩ = some (.int .u64 0) := z4.cell 1
           have e2 : wZ.cell? ⟨w.heap.size + 1, 2, none⟩ = some (.int .u64 0) := z4.cell 2
           have e3 : wZ.cell? ⟨w.heap.size + 1, 3, none⟩ = some (.slice none 0 0) := z4.cell 3
           have g0 := z4.free 0
           have g1 := z4.free 1
           have g2 := z4.free 2
           have g3 := z4.free 3
           have hsn : ((s : Int) == 0) = false := by simp; omega
           have ht0 : ((t : Int) == 0) = false := by simp; omega
           have x1 : wZ.cell? ⟨w.heap.size, 1, none⟩ = some (.int .i64 (t : Int)) := z3.cell 1
           go_wp2
           have KE := K1.trans (keeps4 wZ (w.heap.size + 1) (.int .u64 xn) (.int .u64 xb) (.int .u64 0) (.slice ao out.length co)) (fun j _ e => ⟨by omega, by omega⟩)
           refine bodyPost_ret (v := .agg #[.int .u64 xn, .int .u64 xb, .int .u64 0, .slice ao out.length co]) (by simp [results, Try.results17, go_sem, e0, e1, e2, e3]) rfl ?_
           rw [hq.out]
           exact noded_fin hH.out (hbw2.drew) hzX (q := (l2, out)) hoY hMY hKY hfY hcY KE xn xb 0)
        | (have hoY := goY
           try simp only at hoY hMY hfY hcY
           have hzA : ((w2.alloc (.cells #[.int .u64 0, .int .u64 0, .int .u64 0, .slice none 0 0] TN)).drew).heap.size = w2.heap.size + 1 := by simp
           have hzX : w.heap.size + 1 < ((w2.alloc (.cells #[.int .u64 0, .int .u64 0, .int .u64 0, .slice none 0 0] TN)).drew).heap.size := by omega
           have K0 := keeps4 wY w2.heap.size (.int .u64 xn) (.int .u64 xb) (.int .u64 0) (.slice ao out.length co)
           have K1 : Keeps wY _ (fun j => w.heap.size + 1 ≤ j ∧ j < ((w2.alloc (.cells #[.int .u64 0, .int .u64 0, .int .u64 0, .slice none 0 0] TN)).drew).heap.size) := K0.mono (fun j _ e => ⟨by omega, by omega⟩)
           have hne4 : w2.heap.size ≠ w.heap.size + 1 := by omega
           have hne3 : w2.heap.size ≠ w.heap.size := by omega
           have z3 := (((y3.kset hne3 0 (.int .u64 xn)).kset hne3 1 (.int .u64 xb)).kset hne3 2 (.int .u64 0)).kset hne3 3 (.slice ao out.length co)
           have z4 := (((y4.kset hne4 0 (.int .u64 xn)).kset hne4 1 (.int .u64 xb)).kset hne4 2 (.int .u64 0)).kset hne4 3 (.slice ao out.length co)
           have z7 : RowAt ((((wY.setCell ⟨w2.heap.size, 0, none⟩ (.int .u64 xn)).setCell ⟨w2.heap.size, 1, none⟩ (.int .u64 xb)).setCell ⟨w2.heap.size, 2, none⟩ (.int .u64 0)).setCell ⟨w2.heap.size, 3, none⟩ (.slice ao out.length co)) w2.heap.size TN [.int .u64 xn, .int .u64 xb, .int .u64 0, .slice ao out.length co] := (((y7.set 0 (.int .u64 xn)).set 1 (.int .u64 xb)).set 2 (.int .u64 0)).set 3 (.slice ao out.length co)
           have hMZ := hMY.keeps K0 (fun j hj e => by
             subst e
             rcases hj with e | e | e
             · have := hH.out.row.lt; omega
             · have := hH.out.map.lt; omega
             · rcases hfY.out _ e with h1 | h1
               · have := (OwnR.lt hH.out.own h1).2; omega
               · omega)
           have hnx : ¬ w2.heap.size = w.heap.size + 1 := by omega
           have hS7 : Hid (∀ j, j < wY.heap.size → j = w2.heap.size → w.heap.size + 1 ≤ j ∧ j < ((w2.alloc (.cells #[.int .u64 0, .int .u64 0, .int .u64 0, .slice none 0 0] TN)).drew).heap.size) := fun j h1 h2 => by omega
           replace hzA := Lib.hid hzA
           clear K0
           generalize ((((wY.setCell ⟨w2.heap.size, 0, none⟩ (.int .u64 xn)).setCell ⟨w2.heap.size, 1, none⟩ (.int .u64 xb)).setCell ⟨w2.heap.size, 2, none⟩ (.int .u64 0)).setCell ⟨w2.heap.size, 3, none⟩ (.slice ao out.length co)) = wZ at K1 z3 z4 z7 hMZ ⊢
           clear v0 v1 v2 v3 u0 u1 u2 u3
           have hSx := Lib.hid hzX
           clear y0 y1 yc c0 c1 c3
           have m0 : wZ.cell? ⟨M, 0, none⟩ = some (.int .i64 (s : Int)) := hMZ.row.cell 0
           have k0 : wZ.cell? ⟨w2.heap.size, 0, none⟩ = some (.int .u64 xn) := z7.cell 0
           have k1 : wZ.cell? ⟨w2.heap.size, 1, none⟩ = some (.int .u64 xb) := z7.cell 1
           have k2 : wZ.cell? ⟨w2.heap.size, 2, none⟩ = some (.int .u64 0) := z7.cell 2
           have k3 : wZ.cell? ⟨w2.heap.size, 3, none⟩ = some (.slice ao out.length co) := z7.cell 3
           have kf := z7.free 2
           have e0 : wZ.cell? ⟨w.heap.size + 1, 0, none⟩ = some (.int .u64 0) := z4.cell 0
           have e1 : wZ.cell? ⟨w.heap.size + 1, 1, none⟩ = some (.int .u64 0) := z4.cell 1
           have e2 : wZ.cell? ⟨w.heap.size + 1, 2, none⟩ = some (.int .u64 0) := z4.cell 2
           have e3 : wZ.cell? ⟨w.heap.size + 1, 3, none⟩ = some (.slice none 0 0) := z4.cell 3
           have g0 := z4.free 0
           have g1 := z4.free 1
           have g2 := z4.free 2
           have g3 := z4.free 3
           have hsn : ((s : Int) == 0) = false := by simp; omega
           have ht0 : ((t : Int) == 0) = false := by simp; omega
           have x1 : wZ.cell? ⟨w.heap.size, 1, none⟩ = some (.int .i64 (t : Int)) := z3.cell 1
           go_wp2
           have KE := K1.trans (keeps4 wZ (w.heap.size + 1) (.int .u64 xn) (.int .u64 xb) (.int .u64 0) (.slice ao out.length co)) (fun j _ e => ⟨by omega, by omega⟩)
           refine bodyPost_ret (v := .agg #[.int .u64 xn, .int .u64 xb, .int .u64 0, .slice ao out.length co]) (by simp [results, Try.results17, go_sem, e0, e1, e2, e3]) rfl ?_
           rw [hq.out]
           exact noded_fin hH.out (hbX.out) hzX (q := (l2, out)) hoY hMY hKY hfY hcY KE xn xb 0)
  | false =>
    have hbit := hbb
    have hT2 : Hid (T = (t : Int)) := by have := hT.out; rwa [if_neg (by rw [hbb]; simp)] at this
    by_cases ht1 : t = 0
    · have hbit0 : Hid (bitN xi 0 = false) := by show _ = _; rw [← hbb, ht1]; rfl
      have hI2 : Hid (I = 0) := by have := hI.out; rwa [if_neg (by rw [hbit0.out]; simp; omega)] at this
      obtain rfl := hI2.out
      clear hI2 hI hbb
      replace ht1 := Lib.hid ht1
      have ht1' : (t : Int) ≤ 0 := by have := ht1.out; omega
      go_enter Try.func17, Try.ntmps17
      go_wp2
      rw [← HW1.out]
      go_region
      go_wp2_with fail
      have hbA : Below w1.heap.size w1 ((w1.alloc (.cells #[.int .u64 xn, .int .u64 xb, .int .u64 xi, .slice ax xt.length cx] TN)).drew) := (balloc (Below.refl _ _) _).drew
      have h2 := h1.out.below hbA
      have s3 := r3.out.below hbA
      have s4 := r4.out.below hbA
      have s5 : RowAt ((w1.alloc (.cells #[.int .u64 xn, .int .u64 xb, .int .u64 xi, .slice ax xt.length cx] TN)).drew) w1.heap.size TN [.int .u64 xn, .int .u64 xb, .int .u64 xi, .slice ax xt.length cx] := RowAt.new (w := w1) #[.int .u64 xn, .int .u64 xb, .int .u64 xi, .slice ax xt.length cx] rfl
      have hz2 : w1.heap.size < ((w1.alloc (.cells #[.int .u64 xn, .int .u64 xb, .int .u64 xi, .slice ax xt.length cx] TN)).drew).heap.size := by simp
      have hbw2 := btrans hb1.out hbA
      generalize (w1.alloc (.cells #[.int .u64 xn, .int .u64 xb, .int .u64 xi, .slice ax xt.length cx] TN)).drew = w2 at h2 s3 s4 s5 hz2 hbw2 ⊢
      clear hbA m0 m2 b0 b1 q0 q1 q2 q3
      have CI := hIS.out w2 (btrans hbW.out hbw2) pa l.length pc h2.row (t : Int) t ht
      rw [hbit] at CI
      replace CI := Lib.hid CI
      refine CI.out.mono ?_
      rintro e w3 ⟨rfl, hb3⟩
      replace hbw2 := btrans hbw2 hb3
      replace hz2 := Nat.lt_of_lt_of_le hz2 hb3.size
      replace h2 := h2.below hb3
      replace s3 := s3.below hb3
      replace s4 := s4.below hb3
      replace s5 := s5.below hb3
      clear CI hb3
      go_wp2_with fail
      generalize w3 = w2 at h2 s3 s4 s5 hz2 hbw2 ⊢
      have c0 : w2.cell? ⟨w1.heap.size, 0, none⟩ = some (.int .u64 xn) := s5.cell 0
      have c1 : w2.cell? ⟨w1.heap.size, 1, none⟩ = some (.int .u64 xb) := s5.cell 1
      have c3 : w2.cell? ⟨w1.heap.size, 3, none⟩ = some (.slice ax xt.length cx) := s5.cell 3
      have CR := hROW.out w2.drew (btrans hbW.out hbw2).drew pa pc (h2.below (Below.refl _ _).drew) T hTw.out
      have hbZ : Below w2.heap.size w2 ((w2.alloc (.cells #[.int .u64 0, .int .u64 0, .int .u64 0, .slice none 0 0] TN)).drew) := (balloc (Below.refl _ _) _).drew
      have CS := hROW.out ((w2.alloc (.cells #[.int .u64 0, .int .u64 0, .int .u64 0, .slice none 0 0] TN)).drew) (btrans (btrans hbW.out hbw2) hbZ) pa pc (h2.below hbZ) T hTw.out
      generalize hq : rowP T xt (l, []) = q at CR CS
      obtain ⟨l2, out⟩ := q
      obtain rfl := hT2.out
      replace hq := Lib.hid hq
      replace CR := Lib.hid CR
      replace CS := Lib.hid CS
      have s7 := Lib.hid (RowAt.new (w := w2) (T := TN) #[.int .u64 0, .int .u64 0, .int .u64 0, .slice none 0 0] rfl)
      have hz1' : w.heap.size + 1 < w1.heap.size := by have := hz1.out; omega
      have hhot := Lib.hid (fun j hj => hH.out.hotB (j := j) hj)
      have hn7 : Hid (¬ Hot M mb (.slice pa l.length pc) w2.heap.size) := fun hh => by have := (hhot.out _ hh).2; omega
      have hn5 : Hid (¬ Hot M mb (.slice pa l.length pc) w1.heap.size) := fun hh => by have := (hhot.out _ hh).2; omega
      have hn4 : Hid (¬ Hot M mb (.slice pa l.length pc) (w.heap.size + 1)) := fun hh => by have := (hhot.out _ hh).2; omega
      have hn3 : Hid (¬ Hot M mb (.slice pa l.length pc) w.heap.size) := fun hh => by have := (hhot.out _ hh).2; omega
      have t3 := Lib.hid (s3.below hbZ)
      have t4 := Lib.hid (s4.below hbZ)
      have t5 := Lib.hid (s5.below hbZ)
      have hbX := Lib.hid (btrans hbw2 hbZ)
      replace hbZ := Lib.hid hbZ
      have hne5 : Hid (w2.heap.size ≠ w1.heap.size) := by show _ ≠ _; omega
      go_region_held3 (fun w' => w'.cell? ⟨w1.heap.size, 0, none⟩ = some (.int .u64 xn) ∧ w'.cell? ⟨w1.heap.size, 1, none⟩ = some (.int .u64 xb) ∧ w'.cell? ⟨w1.heap.size, 3, none⟩ = some (.slice ax xt.length cx)) (first | exact ⟨y0, y1, yc⟩ | exact ⟨z6.cell 0, z6.cell 1, z6.cell 3⟩ | exact ⟨z5.cell 0, z5.cell 1, z5.cell 3⟩ | exact ⟨c0, c1, c3⟩ | exact ⟨t5.out.cell 0, t5.out.cell 1, t5.out.cell 3⟩) (first
        | (go_at_call 16; (with_reducible refine CR.out.mono ?_); rintro r wY ⟨ao, co, pa', pc', rfl, hoY, hMY, hKY, hfY, hcY⟩; have hKY2 : Keeps w2 wY (Hot M mb (.slice pa l.length pc)) := ⟨hKY.os, hKY.tape, hKY.output, hKY.size, hKY.block⟩; have y5 := s5.keeps hKY2 hn5.out; have y4 := s4.keeps hKY2 hn4.out; have y3 := s3.keeps hKY2 hn3.out; have y0 : wY.cell? ⟨w1.heap.size, 0, none⟩ = some (.int .u64 xn) := y5.cell 0; have y1 : wY.cell? ⟨w1.heap.size, 1, none⟩ = some (.int .u64 xb) := y5.cell 1; have yc : wY.cell? ⟨w1.heap.size, 3, none⟩ = some (.slice ax xt.length cx) := y5.cell 3; have z5 := y5.alloc (.cells #[.int .u64 xn, .int .u64 xb, .int .u64 0, .slice ao out.length co] TN); have z6 := y5.alloc (.cells #[.int .u64 0, .int .u64 0, .int .u64 0, .slice none 0 0] TN); have hyl := y5.lt; have hzY := hKY2.size)
        | (go_at_call 16; (with_reducible refine CS.out.mono ?_); rintro r wY ⟨ao, co, pa', pc', rfl, goY, hMY, hKY, hfY, hcY⟩; have y5 := t5.out.keeps hKY hn5.out; have y4 := t4.out.keeps hKY hn4.out; have y3 := t3.out.keeps hKY hn3.out; have y7 := RowAt.keeps (w := (w2.alloc (.cells #[.int .u64 0, .int .u64 0, .int .u64 0, .slice none 0 0] TN)).drew) s7.out hKY hn7.out; have y0 : wY.cell? ⟨w1.heap.size, 0, none⟩ = some (.int .u64 xn) := y5.cell 0; have y1 : wY.cell? ⟨w1.heap.size, 1, none⟩ = some (.int .u64 xb) := y5.cell 1; have yc : wY.cell? ⟨w1.heap.size, 3, none⟩ = some (.slice ax xt.length cx) := y5.cell 3; have v0 : wY.cell? ⟨w2.heap.size, 0, none⟩ = some (.int .u64 0) := y7.cell 0; have v1 : wY.cell? ⟨w2.heap.size, 1, none⟩ = some (.int .u64 0) := y7.cell 1; have v2 : wY.cell? ⟨w2.heap.size, 2, none⟩ = some (.int .u64 0) := y7.cell 2; have v3 : wY.cell? ⟨w2.heap.size, 3, none⟩ = some (.slice none 0 0) := y7.cell 3; have u0 := y7.free 0; have u1 := y7.free 1; have u2 := y7.free 2; have u3 := y7.free 3; have z5 := (((y5.kset hne5.out 0 (.int .u64 xn)).kset hne5.out 1 (.int .u64 xb)).kset hne5.out 2 (.int .u64 0)).kset hne5.out 3 (.slice ao out.length co); have hyl := y5.lt; have hzY := hKY.size))
      all_goals clear hT2
      all_goals first
        | (have hoY2 := hoY
           try simp only at hoY hMY hfY hcY
           have hWZ : Below wY.heap.size wY (wY.alloc (.cells #[.int .u64 xn, .int .u64 xb, .int .u64 0, .slice ao out.length co] TN)) := balloc (Below.refl _ _) _
           have K1 : Keeps wY (wY.alloc (.cells #[.int .u64 xn, .int .u64 xb, .int .u64 0, .slice ao out.length co] TN)) (fun j => w.heap.size + 1 ≤ j ∧ j < w2.heap.size) := Keeps.of_below hWZ
           have z4 := y4.below hWZ
           have z3 := y3.below hWZ
           have z7 := RowAt.new (w := wY) (T := TN) #[.int .u64 xn, .int .u64 xb, .int .u64 0, .slice ao out.length co] rfl
           have hMZ := hMY.below hWZ
           have hbx := hbw2
           have hzX : w.heap.size + 1 < w2.heap.size := by omega
           have hnx : ¬ wY.heap.size = w.heap.size + 1 := by omega
           have hS7 : Hid (∀ j, j < wY.heap.size → j = wY.heap.size → w.heap.size + 1 ≤ j ∧ j < w2.heap.size) := fun j h1 h2 => by omega
           generalize wY.alloc (.cells #[.int .u64 xn, .int .u64 xb, .int .u64 0, .slice ao out.length co] TN) = wZ at K1 z3 z4 z7 hMZ ⊢
           clear hWZ
           have hSx := Lib.hid hzX
           clear y0 y1 yc c0 c1 c3
           have m0 : wZ.cell? ⟨M, 0, none⟩ = some (.int .i64 (s : Int)) := hMZ.row.cell 0
           have k0 : wZ.cell? ⟨wY.heap.size, 0, none⟩ = some (.int .u64 xn) := z7.cell 0
           have k1 : wZ.cell? ⟨wY.heap.size, 1, none⟩ = some (.int .u64 xb) := z7.cell 1
           have k2 : wZ.cell? ⟨wY.heap.size, 2, none⟩ = some (.int .u64 0) := z7.cell 2
           have k3 : wZ.cell? ⟨wY.heap.size, 3, none⟩ = some (.slice ao out.length co) := z7.cell 3
           have kf := z7.free 2
           have e0 : wZ.cell? ⟨w.heap.size + 1, 0, none⟩ = some (.int .u64 0) := z4.cell 0
           have e1 : wZ.cell? ⟨w.heap.size + 1, 1, none⟩ = some (.int .u64 0) := z4.cell 1
           have e2 : wZ.cell? ⟨w.heap.size + 1, 2, none⟩ = some (.int .u64 0) := z4.cell 2
           have e3 : wZ.cell? ⟨w.heap.size + 1, 3, none⟩ = some (.slice none 0 0) := z4.cell 3
           have g0 := z4.free 0
           have g1 := z4.free 1
           have g2 := z4.free 2
           have g3 := z4.free 3
           have hsn : ((s : Int) == 0) = false := by simp; omega
           have ht0 : ((t : Int) == 0) = true := by simp; omega
           have x0 : wZ.cell? ⟨w.heap.size, 0, none⟩ = some (.int .i64 (i : Int)) := z3.cell 0
           have x1 : wZ.cell? ⟨w.heap.size, 1, none⟩ = some (.int .i64 (t : Int)) := z3.cell 1
           have hbWY := hKY.below (btrans hbW.out hbw2.drew) (fun j hj => (hH.out.hotB hj).1)
           have hwW0 := hbW.out.size
           have hbWZ := K1.below hbWY (fun j hj => by omega)
           have CJ := hIS0.out wZ hbWZ pa' l2.length pc' hMZ.row (t : Int)
           rw [show ((0 : Nat) : Int) = 0 from rfl, hbit0.out] at CJ
           replace CJ := Lib.hid CJ
           clear hbWY hbWZ
           go_wp2_with fail
           refine CJ.out.mono ?_
           rintro e w6 ⟨rfl, hb6⟩
           have K2 := K1.trans (Keeps.of_below (S := fun _ => False) hb6) (fun _ _ h => h.elim)
           replace z4 := z4.below hb6
           replace z7 := z7.below hb6
           clear k0 k1 k2 k3 kf e0 e1 e2 e3 g0 g1 g2 g3 m0 x0 x1 CJ hb6
           have k0 : w6.cell? ⟨wY.heap.size, 0, none⟩ = some (.int .u64 xn) := z7.cell 0
           have k1 : w6.cell? ⟨wY.heap.size, 1, none⟩ = some (.int .u64 xb) := z7.cell 1
           have k2 : w6.cell? ⟨wY.heap.size, 2, none⟩ = some (.int .u64 0) := z7.cell 2
           have k3 : w6.cell? ⟨wY.heap.size, 3, none⟩ = some (.slice ao out.length co) := z7.cell 3
           have kf := z7.free 2
           have e0 : w6.cell? ⟨w.heap.size + 1, 0, none⟩ = some (.int .u64 0) := z4.cell 0
           have e1 : w6.cell? ⟨w.heap.size + 1, 1, none⟩ = some (.int .u64 0) := z4.cell 1
           have e2 : w6.cell? ⟨w.heap.size + 1, 2, none⟩ = some (.int .u64 0) := z4.cell 2
           have e3 : w6.cell? ⟨w.heap.size + 1, 3, none⟩ = some (.slice none 0 0) := z4.cell 3
           have g0 := z4.free 0
           have g1 := z4.free 1
           have g2 := z4.free 2
           have g3 := z4.free 3
           go_wp2
           have KE := K2.trans (keeps4 w6 (w.heap.size + 1) (.int .u64 xn) (.int .u64 xb) (.int .u64 0) (.slice ao out.length co)) (fun j _ e => ⟨by omega, by omega⟩)
           refine bodyPost_ret (v := .agg #[.int .u64 xn, .int .u64 xb, .int .u64 0, .slice ao out.length co]) (by simp [results, Try.results17, go_sem, e0, e1, e2, e3]) rfl ?_
           rw [hq.out]
           exact noded_fin hH.out (hbw2.drew) hzX (q := (l2, out)) hoY hMY hKY hfY hcY KE xn xb 0)
        | (have hoY := goY
           try simp only at hoY hMY hfY hcY
           have hzA : ((w2.alloc (.cells #[.int .u64 0, .int .u64 0, .int .u64 0, .slice none 0 0] TN)).drew).heap.size = w2.heap.size + 1 := by simp
           have hzX : w.heap.size + 1 < ((w2.alloc (.cells #[.int .u64 0, .int .u64 0, .int .u64 0, .slice none 0 0] TN)).drew).heap.size := by omega
           have K0 := keeps4 wY w2.heap.size (.int .u64 xn) (.int .u64 xb) (.int .u64 0) (.slice ao out.length co)
           have K1 : Keeps wY _ (fun j => w.heap.size + 1 ≤ j ∧ j < ((w2.alloc (.cells #[.int .u64 0, .int .u64 0, .int .u64 0, .slice none 0 0] TN)).drew).heap.size) := K0.mono (fun j _ e => ⟨by omega, by omega⟩)
           have hne4 : w2.heap.size ≠ w.heap.size + 1 := by omega
           have hne3 : w2.heap.size ≠ w.heap.size := by omega
           have z3 := (((y3.kset hne3 0 (.int .u64 xn)).kset hne3 1 (.int .u64 xb)).kset hne3 2 (.int .u64 0)).kset hne3 3 (.slice ao out.length co)
           have z4 := (((y4.kset hne4 0 (.int .u64 xn)).kset hne4 1 (.int .u64 xb)).kset hne4 2 (.int .u64 0)).kset hne4 3 (.slice ao out.length co)
           have z7 : RowAt ((((wY.setCell ⟨w2.heap.size, 0, none⟩ (.int .u64 xn)).setCell ⟨w2.heap.size, 1, none⟩ (.int .u64 xb)).setCell ⟨w2.heap.size, 2, none⟩ (.int .u64 0)).setCell ⟨w2.heap.size, 3, none⟩ (.slice ao out.length co)) w2.heap.size TN [.int .u64 xn, .int .u64 xb, .int .u64 0, .slice ao out.length co] := (((y7.set 0 (.int .u64 xn)).set 1 (.int .u64 xb)).set 2 (.int .u64 0)).set 3 (.slice ao out.length co)
           have hMZ := hMY.keeps K0 (fun j hj e => by
             subst e
             rcases hj with e | e | e
             · have := hH.out.row.lt; omega
             · have := hH.out.map.lt; omega
             · rcases hfY.out _ e with h1 | h1
               · have := (OwnR.lt hH.out.own h1).2; omega
               · omega)
           have hnx : ¬ w2.heap.size = w.heap.size + 1 := by omega
           have hS7 : Hid (∀ j, j < wY.heap.size → j = w2.heap.size → w.heap.size + 1 ≤ j ∧ j < ((w2.alloc (.cells #[.int .u64 0, .int .u64 0, .int .u64 0, .slice none 0 0] TN)).drew).heap.size) := fun j h1 h2 => by omega
           replace hzA := Lib.hid hzA
           clear K0
           generalize ((((wY.setCell ⟨w2.heap.size, 0, none⟩ (.int .u64 xn)).setCell ⟨w2.heap.size, 1, none⟩ (.int .u64 xb)).setCell ⟨w2.heap.size, 2, none⟩ (.int .u64 0)).setCell ⟨w2.heap.size, 3, none⟩ (.slice ao out.length co)) = wZ at K1 z3 z4 z7 hMZ ⊢
           clear v0 v1 v2 v3 u0 u1 u2 u3
           have hSx := Lib.hid hzX
           clear y0 y1 yc c0 c1 c3
           have m0 : wZ.cell? ⟨M, 0, none⟩ = some (.int .i64 (s : Int)) := hMZ.row.cell 0
           have k0 : wZ.cell? ⟨w2.heap.size, 0, none⟩ = some (.int .u64 xn) := z7.cell 0
           have k1 : wZ.cell? ⟨w2.heap.size, 1, none⟩ = some (.int .u64 xb) := z7.cell 1
           have k2 : wZ.cell? ⟨w2.heap.size, 2, none⟩ = some (.int .u64 0) := z7.cell 2
           have k3 : wZ.cell? ⟨w2.heap.size, 3, none⟩ = some (.slice ao out.length co) := z7.cell 3
           have kf := z7.free 2
           have e0 : wZ.cell? ⟨w.heap.size + 1, 0, none⟩ = some (.int .u64 0) := z4.cell 0
           have e1 : wZ.cell? ⟨w.heap.size + 1, 1, none⟩ = some (.int .u64 0) := z4.cell 1
           have e2 : wZ.cell? ⟨w.heap.size + 1, 2, none⟩ = some (.int .u64 0) := z4.cell 2
           have e3 : wZ.cell? ⟨w.heap.size + 1, 3, none⟩ = some (.slice none 0 0) := z4.cell 3
           have g0 := z4.free 0
           have g1 := z4.free 1
           have g2 := z4.free 2
           have g3 := z4.free 3
           have hsn : ((s : Int) == 0) = false := by simp; omega
           have ht0 : ((t : Int) == 0) = true := by simp; omega
           have x0 : wZ.cell? ⟨w.heap.size, 0, none⟩ = some (.int .i64 (i : Int)) := z3.cell 0
           have x1 : wZ.cell? ⟨w.heap.size, 1, none⟩ = some (.int .i64 (t : Int)) := z3.cell 1
           have hbWY := hKY.below (btrans hbW.out hbX.out) (fun j hj => (hH.out.hotB hj).1)
           have hwW0 := hbW.out.size
           have hbWZ := K1.below hbWY (fun j hj => by omega)
           have CJ := hIS0.out wZ hbWZ pa' l2.length pc' hMZ.row (t : Int)
           rw [show ((0 : Nat) : Int) = 0 from rfl, hbit0.out] at CJ
           replace CJ := Lib.hid CJ
           clear hbWY hbWZ
           go_wp2_with fail
           refine CJ.out.mono ?_
           rintro e w6 ⟨rfl, hb6⟩
           have K2 := K1.trans (Keeps.of_below (S := fun _ => False) hb6) (fun _ _ h => h.elim)
           replace z4 := z4.below hb6
           replace z7 := z7.below hb6
           clear k0 k1 k2 k3 kf e0 e1 e2 e3 g0 g1 g2 g3 m0 x0 x1 CJ hb6
           have k0 : w6.cell? ⟨w2.heap.size, 0, none⟩ = some (.int .u64 xn) := z7.cell 0
           have k1 : w6.cell? ⟨w2.heap.size, 1, none⟩ = some (.int .u64 xb) := z7.cell 1
           have k2 : w6.cell? ⟨w2.heap.size, 2, none⟩ = some (.int .u64 0) := z7.cell 2
           have k3 : w6.cell? ⟨w2.heap.size, 3, none⟩ = some (.slice ao out.length co) := z7.cell 3
           have kf := z7.free 2
           have e0 : w6.cell? ⟨w.heap.size + 1, 0, none⟩ = some (.int .u64 0) := z4.cell 0
           have e1 : w6.cell? ⟨w.heap.size + 1, 1, none⟩ = some (.int .u64 0) := z4.cell 1
           have e2 : w6.cell? ⟨w.heap.size + 1, 2, none⟩ = some (.int .u64 0) := z4.cell 2
           have e3 : w6.cell? ⟨w.heap.size + 1, 3, none⟩ = some (.slice none 0 0) := z4.cell 3
           have g0 := z4.free 0
           have g1 := z4.free 1
           have g2 := z4.free 2
           have g3 := z4.free 3
           go_wp2
           have KE := K2.trans (keeps4 w6 (w.heap.size + 1) (.int .u64 xn) (.int .u64 xb) (.int .u64 0) (.slice ao out.length co)) (fun j _ e => ⟨by omega, by omega⟩)
           refine bodyPost_ret (v := .agg #[.int .u64 xn, .int .u64 xb, .int .u64 0, .slice ao out.length co]) (by simp [results, Try.results17, go_sem, e0, e1, e2, e3]) rfl ?_
           rw [hq.out]
           exact noded_fin hH.out (hbX.out) hzX (q := (l2, out)) hoY hMY hKY hfY hcY KE xn xb 0)
    · have hI2 : Hid (I = 0) := by have := hI.out; rwa [if_neg (by omega)] at this
      obtain rfl := hI2.out
      clear hI2 hI hbb
      have ht1' : 0 < (t : Int) := by omega
      go_enter Try.func17, Try.ntmps17
      go_wp2
      rw [← HW1.out]
      go_region
      go_wp2_with fail
      have hbA : Below w1.heap.size w1 ((w1.alloc (.cells #[.int .u64 xn, .int .u64 xb, .int .u64 xi, .slice ax xt.length cx] TN)).drew) := (balloc (Below.refl _ _) _).drew
      have h2 := h1.out.below hbA
      have s3 := r3.out.below hbA
      have s4 := r4.out.below hbA
      have s5 : RowAt ((w1.alloc (.cells #[.int .u64 xn, .int .u64 xb, .int .u64 xi, .slice ax xt.length cx] TN)).drew) w1.heap.size TN [.int .u64 xn, .int .u64 xb, .int .u64 xi, .slice ax xt.length cx] := RowAt.new (w := w1) #[.int .u64 xn, .int .u64 xb, .int .u64 xi, .slice ax xt.length cx] rfl
      have hz2 : w1.heap.size < ((w1.alloc (.cells #[.int .u64 xn, .int .u64 xb, .int .u64 xi, .slice ax xt.length cx] TN)).drew).heap.size := by simp
      have hbw2 := btrans hb1.out hbA
      generalize (w1.alloc (.cells #[.int .u64 xn, .int .u64 xb, .int .u64 xi, .slice ax xt.length cx] TN)).drew = w2 at h2 s3 s4 s5 hz2 hbw2 ⊢
      clear hbA m0 m2 b0 b1 q0 q1 q2 q3
      have CI := hIS.out w2 (btrans hbW.out hbw2) pa l.length pc h2.row (t : Int) t ht
      rw [hbit] at CI
      replace CI := Lib.hid CI
      refine CI.out.mono ?_
      rintro e w3 ⟨rfl, hb3⟩
      replace hbw2 := btrans hbw2 hb3
      replace hz2 := Nat.lt_of_lt_of_le hz2 hb3.size
      replace h2 := h2.below hb3
      replace s3 := s3.below hb3
      replace s4 := s4.below hb3
      replace s5 := s5.below hb3
      clear CI hb3
      go_wp2_with fail
      generalize w3 = w2 at h2 s3 s4 s5 hz2 hbw2 ⊢
      have c0 : w2.cell? ⟨w1.heap.size, 0, none⟩ = some (.int .u64 xn) := s5.cell 0
      have c1 : w2.cell? ⟨w1.heap.size, 1, none⟩ = some (.int .u64 xb) := s5.cell 1
      have c3 : w2.cell? ⟨w1.heap.size, 3, none⟩ = some (.slice ax xt.length cx) := s5.cell 3
      have CR := hROW.out w2.drew (btrans hbW.out hbw2).drew pa pc (h2.below (Below.refl _ _).drew) T hTw.out
      have hbZ : Below w2.heap.size w2 ((w2.alloc (.cells #[.int .u64 0, .int .u64 0, .int .u64 0, .slice none 0 0] TN)).drew) := (balloc (Below.refl _ _) _).drew
      have CS := hROW.out ((w2.alloc (.cells #[.int .u64 0, .int .u64 0, .int .u64 0, .slice none 0 0] TN)).drew) (btrans (btrans hbW.out hbw2) hbZ) pa pc (h2.below hbZ) T hTw.out
      generalize hq : rowP T xt (l, []) = q at CR CS
      obtain ⟨l2, out⟩ := q
      obtain rfl := hT2.out
      replace hq := Lib.hid hq
      replace CR := Lib.hid CR
      replace CS := Lib.hid CS
      have s7 := Lib.hid (RowAt.new (w := w2) (T := TN) #[.int .u64 0, .int .u64 0, .int .u64 0, .slice none 0 0] rfl)
      have hz1' : w.heap.size + 1 < w1.heap.size := by have := hz1.out; omega
      have hhot := Lib.hid (fun j hj => hH.out.hotB (j := j) hj)
      have hn7 : Hid (¬ Hot M mb (.slice pa l.length pc) w2.heap.size) := fun hh => by have := (hhot.out _ hh).2; omega
      have hn5 : Hid (¬ Hot M mb (.slice pa l.length pc) w1.heap.size) := fun hh => by have := (hhot.out _ hh).2; omega
      have hn4 : Hid (¬ Hot M mb (.slice pa l.length pc) (w.heap.size + 1)) := fun hh => by have := (hhot.out _ hh).2; omega
      have hn3 : Hid (¬ Hot M mb (.slice pa l.length pc) w.heap.size) := fun hh => by have := (hhot.out _ hh).2; omega
      have t3 := Lib.hid (s3.below hbZ)
      have t4 := Lib.hid (s4.below hbZ)
      have t5 := Lib.hid (s5.below hbZ)
      have hbX := Lib.hid (btrans hbw2 hbZ)
      replace hbZ := Lib.hid hbZ
      have hne5 : Hid (w2.heap.size ≠ w1.heap.size) := by show _ ≠ _; omega
      go_region_held3 (fun w' => w'.cell? ⟨w1.heap.size, 0, none⟩ = some (.int .u64 xn) ∧ w'.cell? ⟨w1.heap.size, 1, none⟩ = some (.int .u64 xb) ∧ w'.cell? ⟨w1.heap.size, 3, none⟩ = some (.slice ax xt.length cx)) (first | exact ⟨y0, y1, yc⟩ | exact ⟨z6.cell 0, z6.cell 1, z6.cell 3⟩ | exact ⟨z5.cell 0, z5.cell 1, z5.cell 3⟩ | exact ⟨c0, c1, c3⟩ | exact ⟨t5.out.cell 0, t5.out.cell 1, t5.out.cell 3⟩) (first
        | (go_at_call 16; (with_reducible refine CR.out.mono ?_); rintro r wY ⟨ao, co, pa', pc', rfl, hoY, hMY, hKY, hfY, hcY⟩; have hKY2 : Keeps w2 wY (Hot M mb (.slice pa l.length pc)) := ⟨hKY.os, hKY.tape, hKY.output, hKY.size, hKY.block⟩; have y5 := s5.keeps hKY2 hn5.out; have y4 := s4.keeps hKY2 hn4.out; have y3 := s3.keeps hKY2 hn3.out; have y0 : wY.cell? ⟨w1.heap.size, 0, none⟩ = some (.int .u64 xn) := y5.cell 0; have y1 : wY.cell? ⟨w1.heap.size, 1, none⟩ = some (.int .u64 xb) := y5.cell 1; have yc : wY.cell? ⟨w1.heap.size, 3, none⟩ = some (.slice ax xt.length cx) := y5.cell 3; have z5 := y5.alloc (.cells #[.int .u64 xn, .int .u64 xb, .int .u64 0, .slice ao out.length co] TN); have z6 := y5.alloc (.cells #[.int .u64 0, .int .u64 0, .int .u64 0, .slice none 0 0] TN); have hyl := y5.lt; have hzY := hKY2.size)
        | (go_at_call 16; (with_reducible refine CS.out.mono ?_); rintro r wY ⟨ao, co, pa', pc', rfl, goY, hMY, hKY, hfY, hcY⟩; have y5 := t5.out.keeps hKY hn5.out; have y4 := t4.out.keeps hKY hn4.out; have y3 := t3.out.keeps hKY hn3.out; have y7 := RowAt.keeps (w := (w2.alloc (.cells #[.int .u64 0, .int .u64 0, .int .u64 0, .slice none 0 0] TN)).drew) s7.out hKY hn7.out; have y0 : wY.cell? ⟨w1.heap.size, 0, none⟩ = some (.int .u64 xn) := y5.cell 0; have y1 : wY.cell? ⟨w1.heap.size, 1, none⟩ = some (.int .u64 xb) := y5.cell 1; have yc : wY.cell? ⟨w1.heap.size, 3, none⟩ = some (.slice ax xt.length cx) := y5.cell 3; have v0 : wY.cell? ⟨w2.heap.size, 0, none⟩ = some (.int .u64 0) := y7.cell 0; have v1 : wY.cell? ⟨w2.heap.size, 1, none⟩ = some (.int .u64 0) := y7.cell 1; have v2 : wY.cell? ⟨w2.heap.size, 2, none⟩ = some (.int .u64 0) := y7.cell 2; have v3 : wY.cell? ⟨w2.heap.size, 3, none⟩ = some (.slice none 0 0) := y7.cell 3; have u0 := y7.free 0; have u1 := y7.free 1; have u2 := y7.free 2; have u3 := y7.free 3; have z5 := (((y5.kset hne5.out 0 (.int .u64 xn)).kset hne5.out 1 (.int .u64 xb)).kset hne5.out 2 (.int .u64 0)).kset hne5.out 3 (.slice ao out.length co); have hyl := y5.lt; have hzY := hKY.size))
      all_goals clear hT2
      all_goals first
        | (have hoY2 := hoY
           try simp only at hoY hMY hfY hcY
           have hWZ : Below wY.heap.size wY (wY.alloc (.cells #[.int .u64 xn, .int .u64 xb, .int .u64 0, .slice ao out.length co] TN)) := balloc (Below.refl _ _) _
           have K1 : Keeps wY (wY.alloc (.cells #[.int .u64 xn, .int .u64 xb, .int .u64 0, .slice ao out.length co] TN)) (fun j => w.heap.size + 1 ≤ j ∧ j < w2.heap.size) := Keeps.of_below hWZ
           have z4 := y4.below hWZ
           have z3 := y3.below hWZ
           have z7 := RowAt.new (w := wY) (T := TN) #[.int .u64 xn, .int .u64 xb, .int .u64 0, .slice ao out.length co] rfl
           have hMZ := hMY.below hWZ
           have hbx := hbw2
           have hzX : w.heap.size + 1 < w2.heap.size := by omega
           have hnx : ¬ wY.heap.size = w.heap.size + 1 := by omega
           have hS7 : Hid (∀ j, j < wY.heap.size → j = wY.heap.size → w.heap.size + 1 ≤ j ∧ j < w2.heap.size) := fun j h1 h2 => by omega
           generalize wY.alloc (.cells #[.int .u64 xn, .int .u64 xb, .int .u64 0, .slice ao out.length co] TN) = wZ at K1 z3 z4 z7 hMZ ⊢
           clear hWZ
           have hSx := Lib.hid hzX
           clear y0 y1 yc c0 c1 c3
           have m0 : wZ.cell? ⟨M, 0, none⟩ = some (.int .i64 (s : Int)) := hMZ.row.cell 0
           have k0 : wZ.cell? ⟨wY.heap.size, 0, none⟩ = some (.int .u64 xn) := z7.cell 0
           have k1 : wZ.cell? ⟨wY.heap.size, 1, none⟩ = some (.int .u64 xb) := z7.cell 1
           have k2 : wZ.cell? ⟨wY.heap.size, 2, none⟩ = some (.int .u64 0) := z7.cell 2
           have k3 : wZ.cell? ⟨wY.heap.size, 3, none⟩ = some (.slice ao out.length co) := z7.cell 3
           have kf := z7.free 2
           have e0 : wZ.cell? ⟨w.heap.size + 1, 0, none⟩ = some (.int .u64 0) := z4.cell 0
           have e1 : wZ.cell? ⟨w.heap.size + 1, 1, none⟩ = some (.int .u64 0) := z4.cell 1
           have e2 : wZ.cell? ⟨w.heap.size + 1, 2, none⟩ = some (.int .u64 0) := z4.cell 2
           have e3 : wZ.cell? ⟨w.heap.size + 1, 3, none⟩ = some (.slice none 0 0) := z4.cell 3
           have g0 := z4.free 0
           have g1 := z4.free 1
           have g2 := z4.free 2
           have g3 := z4.free 3
           have hsn : ((s : Int) == 0) = false := by simp; omega
           have ht0 : ((t : Int) == 0) = false := by simp; omega
           have x1 : wZ.cell? ⟨w.heap.size, 1, none⟩ = some (.int .i64 (t : Int)) := z3.cell 1
           go_wp2
           have KE := K1.trans (keeps4 wZ (w.heap.size + 1) (.int .u64 xn) (.int .u64 xb) (.int .u64 0) (.slice ao out.length co)) (fun j _ e => ⟨by omega, by omega⟩)
           refine bodyPost_ret (v := .agg #[.int .u64 xn, .int .u64 xb, .int .u64 0, .slice ao out.length co]) (by simp [results, Try.results17, go_sem, e0, e1, e2, e3]) rfl ?_
           rw [hq.out]
           exact noded_fin hH.out (hbw2.drew) hzX (q := (l2, out)) hoY hMY hKY hfY hcY KE xn xb 0)
        | (have hoY := goY
           try simp only at hoY hMY hfY hcY
           have hzA : ((w2.alloc (.cells #[.int .u64 0, .int .u64 0, .int .u64 0, .slice none 0 0] TN)).drew).heap.size = w2.heap.size + 1 := by simp
           have hzX : w.heap.size + 1 < ((w2.alloc (.cells #[.int .u64 0, .int .u64 0, .int .u64 0, .slice none 0 0] TN)).drew).heap.size := by omega
           have K0 := keeps4 wY w2.heap.size (.int .u64 xn) (.int .u64 xb) (.int .u64 0) (.slice ao out.length co)
           have K1 : Keeps wY _ (fun j => w.heap.size + 1 ≤ j ∧ j < ((w2.alloc (.cells #[.int .u64 0, .int .u64 0, .int .u64 0, .slice none 0 0] TN)).drew).heap.size) := K0.mono (fun j _ e => ⟨by omega, by omega⟩)
           have hne4 : w2.heap.size ≠ w.heap.size + 1 := by omega
           have hne3 : w2.heap.size ≠ w.heap.size := by omega
           have z3 := (((y3.kset hne3 0 (.int .u64 xn)).kset hne3 1 (.int .u64 xb)).kset hne3 2 (.int .u64 0)).kset hne3 3 (.slice ao out.length co)
           have z4 := (((y4.kset hne4 0 (.int .u64 xn)).kset hne4 1 (.int .u64 xb)).kset hne4 2 (.int .u64 0)).kset hne4 3 (.slice ao out.length co)
           have z7 : RowAt ((((wY.setCell ⟨w2.heap.size, 0, none⟩ (.int .u64 xn)).setCell ⟨w2.heap.size, 1, none⟩ (.int .u64 xb)).setCell ⟨w2.heap.size, 2, none⟩ (.int .u64 0)).setCell ⟨w2.heap.size, 3, none⟩ (.slice ao out.length co)) w2.heap.size TN [.int .u64 xn, .int .u64 xb, .int .u64 0, .slice ao out.length co] := (((y7.set 0 (.int .u64 xn)).set 1 (.int .u64 xb)).set 2 (.int .u64 0)).set 3 (.slice ao out.length co)
           have hMZ := hMY.keeps K0 (fun j hj e => by
             subst e
             rcases hj with e | e | e
             · have := hH.out.row.lt; omega
             · have := hH.out.map.lt; omega
             · rcases hfY.out _ e with h1 | h1
               · have := (OwnR.lt hH.out.own h1).2; omega
               · omega)
           have hnx : ¬ w2.heap.size = w.heap.size + 1 := by omega
           have hS7 : Hid (∀ j, j < wY.heap.size → j = w2.heap.size → w.heap.size + 1 ≤ j ∧ j < ((w2.alloc (.cells #[.int .u64 0, .int .u64 0, .int .u64 0, .slice none 0 0] TN)).drew).heap.size) := fun j h1 h2 => by omega
           replace hzA := Lib.hid hzA
           clear K0
           generalize ((((wY.setCell ⟨w2.heap.size, 0, none⟩ (.int .u64 xn)).setCell ⟨w2.heap.size, 1, none⟩ (.int .u64 xb)).setCell ⟨w2.heap.size, 2, none⟩ (.int .u64 0)).setCell ⟨w2.heap.size, 3, none⟩ (.slice ao out.length co)) = wZ at K1 z3 z4 z7 hMZ ⊢
           clear v0 v1 v2 v3 u0 u1 u2 u3
           have hSx := Lib.hid hzX
           clear y0 y1 yc c0 c1 c3
           have m0 : wZ.cell? ⟨M, 0, none⟩ = some (.int .i64 (s : Int)) := hMZ.row.cell 0
           have k0 : wZ.cell? ⟨w2.heap.size, 0, none⟩ = some (.int .u64 xn) := z7.cell 0
           have k1 : wZ.cell? ⟨w2.heap.size, 1, none⟩ = some (.int .u64 xb) := z7.cell 1
           have k2 : wZ.cell? ⟨w2.heap.size, 2, none⟩ = some (.int .u64 0) := z7.cell 2
           have k3 : wZ.cell? ⟨w2.heap.size, 3, none⟩ = some (.slice ao out.length co) := z7.cell 3
           have kf := z7.free 2
           have e0 : wZ.cell? ⟨w.heap.size + 1, 0, none⟩ = some (.int .u64 0) := z4.cell 0
           have e1 : wZ.cell? ⟨w.heap.size + 1, 1, none⟩ = some (.int .u64 0) := z4.cell 1
           have e2 : wZ.cell? ⟨w.heap.size + 1, 2, none⟩ = some (.int .u64 0) := z4.cell 2
           have e3 : wZ.cell? ⟨w.heap.size + 1, 3, none⟩ = some (.slice none 0 0) := z4.cell 3
           have g0 := z4.free 0
           have g1 := z4.free 1
           have g2 := z4.free 2
           have g3 := z4.free 3
           have hsn : ((s : Int) == 0) = false := by simp; omega
           have ht0 : ((t : Int) == 0) = false := by simp; omega
           have x1 : wZ.cell? ⟨w.heap.size, 1, none⟩ = some (.int .i64 (t : Int)) := z3.cell 1
           go_wp2
           have KE := K1.trans (keeps4 wZ (w.heap.size + 1) (.int .u64 xn) (.int .u64 xb) (.int .u64 0) (.slice ao out.length co)) (fun j _ e => ⟨by omega, by omega⟩)
           refine bodyPost_ret (v := .agg #[.int .u64 xn, .int .u64 xb, .int .u64 0, .slice ao out.length co]) (by simp [results, Try.results17, go_sem, e0, e1, e2, e3]) rfl ?_
           rw [hq.out]
           exact noded_fin hH.out (hbX.out) hzX (q := (l2, out)) hoY hMY hKY hfY hcY KE xn xb 0)
end Go.Proofs.Ytefplklkhcpchaa
