/- A map of pairs to numbers, and the program's number. Conditions: the bound on how many. -/
import Derived.Test.YtmlbjfaofppikaaPrWSt
import Derived.BigRegion
namespace Go.Proofs.Ytmlbjfaofppikaa
open Go.RowKit Go.WideMaps

/-- the map of all pairs to their numbers -/
def NDgo : List PP → Nat → DataW Unit → DataW Unit
  | [], _, D => D
  | p :: l, i, D => NDgo l (i + 1) (D.put (qkey p) (.lit (.int .i64 (i : Int))))
def ND (l : List PP) : DataW Unit := NDgo l 0 (.map [])
theorem NDgo_snoc : ∀ (l : List PP) (i : Nat) (D : DataW Unit) (p : PP), NDgo (l ++ [p]) i D = (NDgo l i D).put (qkey p) (.lit (.int .i64 ((i + l.length : Nat) : Int)))
  | [], i, D, p => by simp [NDgo]
  | q :: l, i, D, p => by
    simp only [List.cons_append, NDgo, NDgo_snoc l, List.length_cons]
    rw [show i + 1 + l.length = i + (l.length + 1) by omega]
theorem ND_snoc (l : List PP) (p : PP) : ND (l ++ [p]) = (ND l).put (qkey p) (.lit (.int .i64 (l.length : Int))) := by
  unfold ND
  rw [NDgo_snoc, Nat.zero_add]
theorem ND_isMap (l : List PP) : Go.Maps.IsMap (ND l) := by
  induction l using snoc_rec with
  | h0 => exact Go.Maps.isMap_empty
  | h1 l p ih => rw [ND_snoc]; exact ih.put _ _
theorem ND_look (l : List PP) (hl : l.Nodup) (hok : ∀ p ∈ l, okPP p) (q : PP) (hq : okPP q) :
    Go.Maps.has (ND l) (qkey q) = decide (q ∈ l) ∧ ∀ z, (ND l).atKey (qkey q) z = if q ∈ l then .lit (.int .i64 (l.idxOf q : Int)) else z := by
  induction l using snoc_rec with
  | h0 => exact ⟨rfl, fun z => rfl⟩
  | h1 l p ih =>
    rw [List.nodup_append] at hl
    obtain ⟨hl1, _, hl2⟩ := hl
    have hp : p ∉ l := fun h => hl2 p h p (by simp) rfl
    obtain ⟨i1, i2⟩ := ih hl1 (fun x hx => hok x (by simp [hx]))
    rw [ND_snoc]
    by_cases he : q = p
    · subst he
      rw [Go.Maps.has_put_same (ND_isMap l) (qkey_is _)]
      refine ⟨by simp, fun z => ?_⟩
      rw [Go.Maps.atKey_put_same (ND_isMap l) (qkey_is _), if_pos (by simp), List.idxOf_append, if_neg hp]
      simp
    · have hk : qkey q ≠ qkey p := fun e => he (qkey_inj hq (hok p (by simp)) e)
      rw [Go.Maps.has_put_other hk, i1]
      refine ⟨by simp [he], fun z => ?_⟩
      rw [Go.Maps.atKey_put_other hk, i2]
      by_cases hm : q ∈ l
      · rw [if_pos hm, if_pos (by simp [hm]), List.idxOf_append, if_pos hm]
      · rw [if_neg hm, if_neg (by simp [hm, he])]
structure NMap (w : World) (b : Nat) (l : List PP) : Prop where
  own : w.ownsMap (H := Unit) Try.prog 32 (plainElem Try.prog 3) b l.length (ND l)
  nodup : l.Nodup
  ok : ∀ p ∈ l, okPP p
theorem NMap.lt {w : World} {b : Nat} {l : List PP} (h : NMap w b l) : b < w.heap.size := World.ownsMap.lt h.own
theorem NMap.keep {w w' : World} {b : Nat} {l : List PP} (h : NMap w b l) (hk : w'.heap[b]? = w.heap[b]?) : NMap w' b l := by
  obtain ⟨⟨es, cl, hb, r⟩, h2, h3⟩ := h
  exact ⟨⟨es, cl, hk.trans hb, r⟩, h2, h3⟩
theorem NMap.keeps {w w' : World} {b : Nat} {l : List PP} {S : Nat → Prop} (h : NMap w b l) (hk : Keeps w w' S) (hn : ¬ S b) : NMap w' b l := h.keep (hk.block b h.lt hn)
theorem NMap.made (w : World) : NMap (w.alloc (.map #[] 0)) w.heap.size [] := ⟨World.ownsMap_made _ _ _ _, List.nodup_nil, by simp⟩
theorem zeroInt (w : World) : (zeroValue 3).run Try.prog w = .ok (.int .i64 0) w := by kernel_rfl
theorem NMap.look {w : World} {b : Nat} {l : List PP} (h : NMap w b l) {p : PP} (hp : okPP p) :
    (Instr.lookup 96 (.map (some b)) (ppv p) true).run Try.prog w = .ok (.tuple #[.int .i64 (if p ∈ l then (l.idxOf p : Int) else 0), .bool (decide (p ∈ l))]) w := by
  obtain ⟨h1, h2⟩ := ND_look l h.nodup h.ok p hp
  obtain ⟨v, ps, hrun, hv⟩ := h.own.look_ok keyedQ Try.underlying96 (zeroInt w) (zd := .lit (.int .i64 0)) (zp := []) (plainElem_int Try.underlying3 (by decide)) (keyOf_qq hp)
  obtain ⟨c, rfl, hc, _⟩ := plainElem_int_inv Try.underlying3 hv
  simp only [Prod.mk.injEq] at hc
  rw [h2] at hc
  rw [hrun, h1]
  by_cases hm : p ∈ l
  · rw [if_pos hm] at hc ⊢
    simp only [DataW.lit.injEq, Lit.int.injEq, true_and] at hc
    rw [hc.1]
  · rw [if_neg hm] at hc ⊢
    simp only [DataW.lit.injEq, Lit.int.injEq, true_and] at hc
    rw [hc.1]
theorem NMap.put {w : World} {b : Nat} {l : List PP} (h : NMap w b l) {p : PP} (hp : okPP p) (hm : p ∉ l) (hl : l.length ≤ 1000000) :
    ∃ w', (Instr.mapUpdate 96 (.map (some b)) (ppv p) (.int .i64 (l.length : Int))).run Try.prog w = .ok () w' ∧ NMap w' b (l ++ [p]) ∧ w.grownBy w' (some b) := by
  obtain ⟨w', hrun, ho, hg⟩ := h.own.update keyedQ Try.underlying96 (by unfold maxLen; omega) (keyOf_qq hp) (plainElem_int (H := Unit) Try.underlying3 (a := (l.length : Int)) (by simp [Lit.wf, IntKind.min, IntKind.max, IntKind.signed, IntKind.bits]; omega))
  refine ⟨w', hrun, ⟨?_, ?_, ?_⟩, hg⟩
  · rw [ND_snoc, List.length_append]
    exact ho
  · rw [List.nodup_append]
    refine ⟨h.nodup, by simp, fun a ha b hb => ?_⟩
    simp at hb
    subst hb
    exact fun e => hm (e ▸ ha)
  · intro x hx
    rcases List.mem_append.1 hx with h1 | h1
    · exact h.ok x h1
    · simp at h1; subst h1; exact hp
/-- what the block of such a map holds -/
def NM (b : Nat) (l : List PP) (o : Option Obj) : Prop := ∃ w, w.heap[b]? = o ∧ NMap w b l
theorem NM.at {w : World} {b : Nat} {l : List PP} (h : NM b l w.heap[b]?) : NMap w b l := by
  obtain ⟨w1, h1, h2⟩ := h
  exact h2.keep h1.symm
theorem NMap.nm {w : World} {b : Nat} {l : List PP} (h : NMap w b l) : NM b l w.heap[b]? := ⟨w, rfl, h⟩
def numQ (l : List PP) (x : PP) : List PP × Nat := if x ∈ l then (l, l.idxOf x) else (l ++ [x], l.length)
/-- what number gives -/
def NumQ (w : World) (B mb : Nat) (a : Option Addr) (c : Nat) (l l' : List PP) (n : Nat) (e : Ending) (w' : World) : Prop :=
  ∃ a' c', e = .returned (.tuple #[.slice a' l'.length c', .int .i64 n]) ∧ OwnQ w' B TPP a' c' l' ∧ NMap w' mb l' ∧ Keeps w w' (fun j => j = mb ∨ OB a l.length c = some j) ∧ Fresh w (OB a l.length c) (OB a' l'.length c')
set_option maxHeartbeats 4000000 in
theorem number_any (w : World) (B mb : Nat) (a : Option Addr) (c : Nat) (l : List PP) (hq : OwnQ w B TPP a c l) (hm : NMap w mb l) (hne : ∀ j, OB a l.length c = some j → j ≠ mb) (hB : B ≤ w.heap.size) (x : PP) (hx : okPP x) (hl : l.length ≤ 100000) :
    Calls Try.prog 45 #[.map (some mb), .slice a l.length c, ppv x] w (NumQ w B mb a c l (numQ l x).1 (numQ l x).2) := by
  obtain ⟨q, s, t⟩ := x
  obtain ⟨w1, hw1⟩ : ∃ w1, w1 = w.alloc (.cells #[.int .i64 q, .int .i64 s, .int .i64 t] TPP) := ⟨_, rfl⟩
  have hb1 : Below w.heap.size w w1 := by rw [hw1]; exact balloc (Below.refl _ _) _
  have r1 : RowAt w1 w.heap.size TPP [.int .i64 q, .int .i64 s, .int .i64 t] := by rw [hw1]; exact RowAt.new #[_, _, _] rfl
  have hm1 := hm.keeps (Keeps.of_below (S := fun _ => False) hb1) (fun h => h)
  have hq1 := OwnR.keeps (S := fun _ => False) hq (Keeps.of_below hb1) (fun _ _ h => h)
  have hlk := hm1.look hx
  simp only [ppv] at hlk
  have hmw := hm.lt
  replace hne := Lib.hid hne
  subst hw1
  by_cases hin : (⟨q, s, t⟩ : PP) ∈ l
  · simp only [if_pos hin, decide_eq_true hin] at hlk
    have hr : Hid (numQ l ⟨q, s, t⟩ = (l, l.idxOf ⟨q, s, t⟩)) := by show _ = _; unfold numQ; rw [if_pos hin]
    rw [hr.out]
    generalize l.idxOf (⟨q, s, t⟩ : PP) = n at hlk
    replace hm1 := Lib.hid hm1
    replace hq1 := Lib.hid hq1
    replace hb1 := Lib.hid hb1
    clear hr hin hm hq r1 hl hB
    go_enter Try.func45, Try.ntmps45
    go_wp2
    go_ret2
    exact ⟨a, c, rfl, hq1.out, hm1.out, Keeps.of_below hb1.out, fun j hj => .inl hj⟩
  · simp only [if_neg hin, decide_eq_false hin] at hlk
    have hr : Hid (numQ l ⟨q, s, t⟩ = (l ++ [⟨q, s, t⟩], l.length)) := by show _ = _; unfold numQ; rw [if_neg hin]
    rw [hr.out]
    obtain ⟨w3, hrun3, hm3, hg3⟩ := hm1.put hx hin (by omega)
    simp only [ppv] at hrun3
    have K3 : Keeps w w3 (fun j => j = mb ∨ OB a l.length c = some j) := (Keeps.of_below (S := fun j => j = mb ∨ OB a l.length c = some j) hb1).trans (Keeps.of_grown (S := fun j => j = mb ∨ OB a l.length c = some j) hg3 (fun j e => by cases e; exact .inl rfl)) (fun _ _ h => h)
    have hq3 := OwnR.keeps (S := fun j => j = mb) hq1 (Keeps.of_grown hg3 (fun j e => by cases e; rfl)) (fun j hj e => hne.out j hj e)
    have r3 : RowAt w3 w.heap.size TPP [.int .i64 q, .int .i64 s, .int .i64 t] := r1.grow hg3 (fun e => by cases e; omega)
    have k0 : w3.cell? ⟨w.heap.size, 0, none⟩ = some (.int .i64 q) := r3.cell 0
    have k1 : w3.cell? ⟨w.heap.size, 1, none⟩ = some (.int .i64 s) := r3.cell 1
    have k2 : w3.cell? ⟨w.heap.size, 2, none⟩ = some (.int .i64 t) := r3.cell 2
    have OW : Hid (OwnR (w3.alloc (.cells #[.int .i64 q, .int .i64 s, .int .i64 t] TPP)) B TPP 3 a l.length c (qcells l)) := OwnR.alloc hq3 _
    have nc : Hid (∀ j u, [Value.int .i64 q, .int .i64 s, .int .i64 t][j]? = some u → (w3.alloc (.cells #[.int .i64 q, .int .i64 s, .int .i64 t] TPP)).cell? ((⟨w3.heap.size, 0, none⟩ : Addr).add j) = some u) := new_cells w3 #[.int .i64 q, .int .i64 s, .int .i64 t] TPP rfl
    have oc : Hid (∀ u ∈ [Value.int .i64 q, .int .i64 s, .int .i64 t], u.oneCell' = true) := fun u hu => by simp at hu; rcases hu with rfl | rfl | rfl <;> rfl
    have n5 : Hid (l.length + 1 ≤ maxLen) := by show _ ≤ _; unfold maxLen; omega
    have y5 : Hid ((l.length + 1) * 24 ≤ 140737488355328) := by show _ ≤ _; omega
    have hAl : Hid (Below w3.heap.size w3 (w3.alloc (.cells #[.int .i64 q, .int .i64 s, .int .i64 t] TPP))) := balloc (Below.refl _ _) _
    have hBA : Hid (B ≤ (w3.alloc (.cells #[.int .i64 q, .int .i64 s, .int .i64 t] TPP)).heap.size) := by show _ ≤ _; have := hAl.out.size; have := K3.size; omega
    replace hm3 := Lib.hid hm3
    replace hq3 := Lib.hid hq3
    replace K3 := Lib.hid K3
    replace r3 := Lib.hid r3
    have hli : (l.length : Int) ≤ 100000 := by omega
    clear hr hin hm hq r1 hg3 hm1 hq1 hb1 hl hB
    go_enter Try.func45, Try.ntmps45
    go_wp2_with (at_builtin; refine wp_appR rfl _ _ 46 TPP (.agg #[.int .i64 0, .int .i64 0, .int .i64 0]) 3 24 rfl Try.underlying46 infoQ rfl (by decide) B a l.length c (qcells l) rfl OW.out w3.heap.size 1 [.int .i64 q, .int .i64 s, .int .i64 t] rfl rfl nc.out oc.out n5.out y5.out hBA.out ?_)
    intro a' c' w5 ho5 hg5 hat5
    have hk5 := grown_keeps hAl.out hg5
    have hm5 := Lib.hid (hm3.out.keeps hk5 (fun e => hne.out mb e rfl))
    have K5 : Hid (Keeps w w5 (fun j => j = mb ∨ OB a l.length c = some j)) := K3.out.trans (S1 := fun j => OB a l.length c = some j) hk5 (fun _ _ e => .inr e)
    have F5 : Hid (Fresh w (OB a l.length c) (OB a' (l.length + 1) c')) := fun j hj => by
      rcases hat5 with h | h
      · exact .inl (h.symm.trans hj)
      · unfold OB at hj
        rw [h] at hj
        cases hj
        have := K3.out.size
        exact .inr (by omega)
    replace ho5 := Lib.hid ho5
    clear hg5 hat5 hk5
    go_wp2
    go_ret2
    have el : (l ++ [(⟨q, s, t⟩ : PP)]).length = l.length + 1 := by simp
    refine ⟨a', c', by rw [el]; rfl, ?_, hm5.out, K5.out, by rw [el]; exact F5.out⟩
    unfold OwnQ
    rw [el, qcells_snoc]
    exact ho5.out
/-- the same, its lengths by name -/
theorem number_at (w : World) (B mb : Nat) (a : Option Addr) (c : Nat) (l : List PP) (hq : OwnQ w B TPP a c l) (hm : NMap w mb l) (hne : ∀ j, OB a l.length c = some j → j ≠ mb) (hB : B ≤ w.heap.size) (x : PP) (hx : okPP x) (hl : l.length ≤ 100000) (l' : List PP) (m n n' : Nat) (e1 : numQ l x = (l', m)) (e2 : l.length = n) (e3 : l'.length = n') :
    Calls Try.prog 45 #[.map (some mb), .slice a n c, .agg #[.int .i64 x.node, .int .i64 x.state, .int .i64 x.turn]] w fun e w' => ∃ a' c', e = .returned (.tuple #[.slice a' n' c', .int .i64 m]) ∧ OwnQ w' B TPP a' c' l' ∧ NMap w' mb l' ∧ Keeps w w' (fun j => j = mb ∨ OB a n c = some j) ∧ Fresh w (OB a n c) (OB a' n' c') := by
  subst e2 e3
  have h := number_any w B mb a c l hq hm hne hB x hx hl
  rw [e1] at h
  exact h
end Go.Proofs.Ytmlbjfaofppikaa
