/- A node's line is read, walked: the program's node. Conditions: what the listed variables hold; short texts. -/
import Derived.Test.YtjacphcnanopjaaDoorAtH
import Derived.Test.YtjacphcnanopjaaDoorDyn
import Derived.Test.YtjacphcnanopjaaDoorAppG
namespace Go.Proofs.YtjacphcnanopjaaDoor
open Go.Shelf Go.RowKit
set_option linter.unusedVariables false
set_option linter.unusedSimpArgs false

theorem infoAn3 : (Tryd.prog.info? TAn).map (fun i => (i.zero, i.size, i.bytes)) = some (some (.agg #[.int .u64 0, .int .u64 0, .int .u64 0, .slice none 0 0]), 4, 48) := by kernel_rfl
/-- numbers of texts, however it ends, and which way -/
theorem NumsV.any2 {w : World} {nm : Option (List Int)} {e : Ending} {w' : World} (h : NumsV w nm e w') : ∃ oa on oc b, e = .returned (.tuple #[.slice oa on oc, .bool b]) ∧ Below w.heap.size w w' ∧ ((nm = none ∧ b = false) ∨ ∃ xs, nm = some xs ∧ b = true ∧ on = xs.length ∧ OwnN .i64 w' w.heap.size TInt oa on oc xs) := by
  cases nm with
  | none => exact ⟨none, 0, 0, false, h.1, h.2, .inl ⟨rfl, rfl⟩⟩
  | some xs => obtain ⟨oa, oc, h1, h2, h3⟩ := h; exact ⟨oa, _, oc, true, h1, h3, .inr ⟨xs, rfl, rfl, rfl, h2⟩⟩
/-- a node more -/
def nodO (A : AU) : Option AN → Option AU
  | some x => some { A with nodes := A.nodes ++ [x] }
  | none => none
theorem line_n (A : AU) (i : Nat) (hi : 2 ≤ i) (L : List (List UInt8)) (h0 : 0 < L.length) : lineP A i L = if L[0] = [110, 111, 100, 101] then nodO A (nodeP ⟨0, 0, 0, []⟩ L.tail) else none := by
  unfold lineP
  rw [if_neg (by omega), if_neg (by omega), List.head?_eq_getElem?, List.getElem?_eq_getElem h0]
  by_cases e : L[0] = [110, 111, 100, 101]
  · rw [if_pos e, if_pos (by rw [e])]
    match nodeP ⟨0, 0, 0, []⟩ L.tail with
    | none => rfl
    | some x => rfl
  · rw [if_neg e, if_neg (fun h => by injection h with h; exact e h)]
/-- a node's two parts -/
def endN (mo : Option AN) (nm : Option (List Int)) : Option AN := match mo with
  | none => none
  | some y => match nm with
    | none => none
    | some l => some ⟨y.need, y.ban, y.inn, l⟩
theorem node_end {fs : List (List UInt8)} {x : AN} {k : Nat} (h : toP fs = some k) : nodeP x fs = endN (marksP x (fs.take k)) (numsP (fs.drop (k + 1))) := by
  rw [node_at fs x k h]
  unfold endN
  cases marksP x (fs.take k) with
  | none => rfl
  | some y => cases numsP (fs.drop (k + 1)) <;> rfl
theorem toI_node {L : List (List UInt8)} (h0 : 0 < L.length) (hw : L[0] = [110, 111, 100, 101]) : toI L = match toP L.tail with
    | some k => ((k + 1 : Nat) : Int)
    | none => -1 := by
  match L, h0, hw with
  | x :: r, _, hw =>
    have hw' : x = [110, 111, 100, 101] := hw
    unfold toI
    rw [toP, if_neg (by rw [hw']; decide)]
    show (match (match toP r with | none => none | some k => some (k + 1)) with | some k => (k : Int) | none => -1) = match toP r with
      | some k => ((k + 1 : Nat) : Int)
      | none => -1
    cases toP r <;> rfl
theorem marks_step (l : List (List UInt8)) (i : Nat) (hi : i < l.length) (x y : AN) (h : marksP x (l.take i) = some y) :
    (markP y l[i] = none → marksP x l = none) ∧ ∀ z, markP y l[i] = some z → marksP x (l.take (i + 1)) = some z := by
  have app : ∀ (a b : List (List UInt8)) (x : AN), marksP x (a ++ b) = match marksP x a with
      | none => none
      | some y => marksP y b := by
    intro a
    induction a with
    | nil => intro b x; rfl
    | cons f r ih =>
      intro b x
      show marksP x (f :: (r ++ b)) = _
      rw [marksP, marksP]
      cases markP x f with
      | none => rfl
      | some y => exact ih b y
  refine ⟨fun hn => ?_, fun z hz => ?_⟩
  · have e : l = l.take i ++ l[i] :: l.drop (i + 1) := by rw [← List.drop_eq_getElem_cons hi, List.take_append_drop]
    rw [e, app, h]
    dsimp only
    rw [marksP, hn]
  · rw [List.take_succ_eq_append_getElem hi, app, h]
    dsimp only
    rw [marksP, hz]
    rfl
/-- a node under way, its numbers not read yet -/
def NdO (w : World) (gx : Nat) (y : AN) : Prop := RowAt w gx TAn [.int .u64 y.need, .int .u64 y.ban, .int .u64 y.inn, .slice none 0 0] ∧ (u64ok y.need ∧ u64ok y.ban ∧ u64ok y.inn)
/-- one append in a region that draws its order -/
def Ap1 (w0 : World) (base T sz nn : Nat) (na : Option Addr) (nc : Nat) (cells row : List Value) (L : Nat → Bool) (rho : Nat → Value) (w : World) : Prop :=
  (L 8 = false → OwnR w base T sz na nn nc cells ∧ Below w0.heap.size w0 w ∧ (L 7 = true → ∃ g5, rho 7 = .slice (some ⟨g5, 0, none⟩) 1 1 ∧ RowAt w g5 T row)) ∧
  (L 8 = true → ∃ a' c' wa, rho 8 = .slice a' (nn + 1) c' ∧ OwnR w base T sz a' (nn + 1) c' (cells ++ row) ∧ Below w0.heap.size w0 wa ∧ wa.grownBy w (Value.slice na nn nc).ownBlock)
section
variable {w0 w : World} {base T sz nn : Nat} {na : Option Addr} {nc : Nat} {cells row : List Value} {L : Nat → Bool} {rho : Nat → Value}
theorem build4 {row : List Value} (h : row.length = 4) : List.foldl (fun cs (x : Value × Nat) => cs.setIfInBounds x.snd x.fst) #[Value.int IntKind.u64 0, Value.int IntKind.u64 0, Value.int IntKind.u64 0, Value.slice none 0 0] row.zipIdx = row.toArray := by
  match row, h with
  | [a, b, c, d], _ => rfl
theorem notL {ops : Array Oper} {L : Nat → Bool} (hl : L 7 = false) (hc : ∀ j, L j = true → ∀ k ∈ depsOf .any ops j, L k = true) (hd : 7 ∈ depsOf .any ops 8) : L 8 = false := by
  cases h : L 8 with
  | false => rfl
  | true => rw [hc 8 h 7 hd] at hl; cases hl
theorem Ap1.start (h : OwnR w0 base T sz na nn nc cells) (rho : Nat → Value) : Ap1 w0 base T sz nn na nc cells row (fun _ => false) rho w0.drew :=
  ⟨fun _ => ⟨h, (Below.refl _ _).drew, fun h => (by cases h)⟩, fun h => (by cases h)⟩
theorem Ap1.pass (h : Ap1 w0 base T sz nn na nc cells row L rho w) {i : Nat} {u : Value} (h7 : i ≠ 7) (h8 : i ≠ 8) : Ap1 w0 base T sz nn na nc cells row (updB L i) (updV rho i u) w := by
  have e7 : updB L i 7 = L 7 := if_neg (fun e => h7 e.symm)
  have e8 : updB L i 8 = L 8 := if_neg (fun e => h8 e.symm)
  have v7 : updV rho i u 7 = rho 7 := if_neg (fun e => h7 e.symm)
  have v8 : updV rho i u 8 = rho 8 := if_neg (fun e => h8 e.symm)
  unfold Ap1
  rw [e7, e8, v7, v8]
  exact h
theorem Ap1.elem (h : Ap1 w0 base T sz nn na nc cells row L rho w) (hl : L 8 = false) : Ap1 w0 base T sz nn na nc cells row (updB L 7) (updV rho 7 (.slice (some ⟨w.heap.size, 0, none⟩) 1 1)) (w.alloc (.cells row.toArray T)) := by
  obtain ⟨h1, h2, _⟩ := h.1 hl
  refine ⟨fun _ => ⟨OwnR.keeps (S := fun _ => False) h1 (Keeps.alloc _ _ _) (fun _ _ e => e), h2.alloc h2.size _, fun _ => ⟨w.heap.size, rfl, ?_⟩⟩, fun e => ?_⟩
  · exact RowAt.new (w := w) (T := T) row.toArray rfl
  · have e8 : updB L 7 8 = L 8 := rfl
    rw [e8, hl] at e
    cases e
theorem Ap1.app {w' : World} (h : Ap1 w0 base T sz nn na nc cells row L rho w) (hl : L 8 = false) {a' : Option Addr} {c' : Nat} (ho : OwnR w' base T sz a' (nn + 1) c' (cells ++ row)) (hg : w.grownBy w' (Value.slice na nn nc).ownBlock) : Ap1 w0 base T sz nn na nc cells row (updB L 8) (updV rho 8 (.slice a' (nn + 1) c')) w' := by
  obtain ⟨h1, h2, _⟩ := h.1 hl
  exact ⟨fun e => (by cases e), fun _ => ⟨a', c', w, rfl, ho, h2, hg⟩⟩
end
/-- a node more, in memory -/
theorem AuB.push {Tb : Nat} {w w1 w2 w3 : World} {base g : Nat} {A : AU} {ia : Option Addr} {ic : Nat} {na : Option Addr} {nc : Nat} {cells : List Value} (S : AuB Tb w base g A ia ic na nc cells) (hTI : TInt ≠ Tb) (hTA : TAn ≠ Tb) (hA : Below w.heap.size w w1) {na' : Option Addr} {nc' : Nat} {row : List Value} (ho : OwnR w2 base TAn 4 na' (A.nodes.length + 1) nc' (cells ++ row)) (hg : w1.grownBy w2 (Value.slice na A.nodes.length nc).ownBlock) (hbx : RowAt w2 g Tb [.int .i64 A.sets, .slice ia A.init.length ic, .slice na A.nodes.length nc]) (k : Keeps w2 w3 (fun j => j = g)) (hb3 : RowAt w3 g Tb [.int .i64 A.sets, .slice ia A.init.length ic, .slice na' (A.nodes.length + 1) nc']) :
    Tame Tb base w w3 ∧ ∀ (x : AN) (oa : Option Addr) (oc : Nat), row = anV x oa oc → OwnN .i64 w1 base TInt oa x.to.length oc x.to → AuB Tb w3 base g { A with nodes := A.nodes ++ [x] } ia ic na' nc' (cells ++ row) := by
  have own1 : OwnR w1 base TAn 4 na A.nodes.length nc cells := OwnR.keeps (S := fun _ => False) S.own (Keeps.of_below hA) (fun _ _ e => e)
  have t01 : Tame Tb base w w1 := Tame.of_below hA
  have t12 : Tame Tb base w1 w2 := Tame.app own1 hg
  have t23 : Tame Tb base w2 w3 := Tame.box k S.lo hbx
  have t13 := t12.trans t23
  refine ⟨t01.trans t13, fun x oa oc hr hx => ⟨?_, S.lo, (S.init.tame t01 hTI).tame t13 hTI, ?_, ?_⟩⟩
  · show RowAt w3 g Tb [.int .i64 A.sets, .slice ia A.init.length ic, .slice na' (A.nodes ++ [x]).length nc']
    rw [List.length_append]
    exact hb3
  · show OwnR w3 base TAn 4 na' (A.nodes ++ [x]).length nc' (cells ++ row)
    rw [List.length_append]
    refine OwnR.keeps ho k (fun j hj e => ?_)
    obtain ⟨_, c, hc⟩ := own_type ho hj
    rw [e, show w2.heap[g]? = _ from hbx] at hc
    injection hc with hc
    injection hc with _ hc _
    exact hTA hc.symm
  · rw [hr]
    exact NdC.snoc (hx.tame t13 hTI) ((S.nds.tame t01 hTI).tame t13 hTI)
set_option maxRecDepth 12000 in
set_option maxHeartbeats 16000000 in
theorem node_any (w : World) (hd : Door w) (base g : Nat) (A : AU) (ia : Option Addr) (ic : Nat) (na : Option Addr) (nc : Nat) (cells : List Value) (S : AuB TRd w base g A ia ic na nc cells) (hbw : base ≤ w.heap.size) (la : Option Addr) (lc : Nat) (L : List (List UInt8)) (i : Nat) (hi2 : 2 ≤ i) (h0 : 0 < L.length) (hL : StrsAt w la L) (hc : L.length ≤ lc) (hl : L.length ≤ 1000000) (hs : ∀ f ∈ L, f.length ≤ 1000000) (hnn : A.nodes.length ≤ 100000) :
    Calls Tryd.prog 24 #[.pointer (some ⟨g, 0, none⟩), .slice la L.length lc] w fun e w' => LineV w base g (lineP A i L) e w' := by
  have IX := index_to w la lc L hL hl
  obtain ⟨o, ho⟩ : ∃ o, o = lineP A i L := ⟨_, rfl⟩
  rw [← ho]
  have ho2 : o = if L[0] = [110, 111, 100, 101] then nodO A (nodeP ⟨0, 0, 0, []⟩ L.tail) else none := by rw [ho]; exact line_n A i hi2 L h0
  obtain ⟨b, off, ea, hcell⟩ := hL h0
  have c1 : w.cell? ⟨b, off, none⟩ = some (.string ⟨(L[0]'h0).toArray⟩) := by
    have := hcell 0 h0
    rw [Nat.add_zero] at this
    exact this
  obtain ⟨q, hq⟩ : ∃ q : ByteArray, q = ⟨(L[0]'h0).toArray⟩ := ⟨_, rfl⟩
  have hqd : q.data.toList = L[0] := by rw [hq]
  rw [← hq] at c1
  have NO : Hid (o = none → ∀ v, Tame TRd base w v → LineV w base g o (.returned (.bool false)) v) := fun e v hb => by subst e; exact ⟨rfl, hb⟩
  have hnI : (1 : Int) ≤ (L.length : Int) := by omega
  have hnI0 : (0 : Int) < (L.length : Int) := by omega
  by_cases hw : L[0] = [110, 111, 100, 101]
  · have hqs : q = ⟨#[110, 111, 100, 101]⟩ := take_eta (hqd.trans hw)
    subst hqs
    rw [if_pos hw] at ho2
    have hti := toI_node h0 hw
    cases htp : toP L.tail with
    | none =>
      rw [htp] at hti
      rw [node_none _ _ htp] at ho2
      have hf := Lib.hid (NO.out ho2 w (Tame.refl _ _ _))
      rw [show toI L = -1 from hti] at IX
      replace IX := Lib.hid IX
      clear NO hq hqd hcell hw ho hL hs hl hc ho2 hd hti htp S
      generalize L.length = ln at *
      subst ea
      clear h0
      go_enter Tryd.func24, Tryd.ntmps24
      go_wp2_with fail
      refine IX.out.mono ?_
      rintro e w1 ⟨rfl, rfl⟩
      clear IX
      go_wp2
      go_ret
      exact hf.out
    | some k =>
      rw [htp] at hti
      have hkt := toP_lt htp
      rw [List.length_tail] at hkt
      obtain ⟨m, hm⟩ : ∃ m, m = k + 1 := ⟨_, rfl⟩
      rw [show toI L = (m : Int) by rw [hm]; exact hti] at IX
      have ho3 : o = nodO A (endN (marksP ⟨0, 0, 0, []⟩ ((L.drop 1).take (m - 1))) (numsP (L.drop (m + 1)))) := by
        have e : L.tail.drop (k + 1) = L.drop (k + 1 + 1) := by rw [← List.drop_one, List.drop_drop, Nat.add_comm]
        rw [ho2, node_end htp, hm, Nat.add_sub_cancel, List.drop_one, e]
      have hm1 : 1 ≤ m := by omega
      have hmL : m + 1 ≤ L.length := by omega
      obtain ⟨N1, hN1⟩ : ∃ N1, N1 = (L.drop 1).take (m - 1) := ⟨_, rfl⟩
      have hN1l : N1.length = m - 1 := by rw [hN1, List.length_take, List.length_drop]; omega
      have hN1s : ∀ f ∈ N1, f.length ≤ 1000000 := fun f hf => by rw [hN1] at hf; exact hs f (List.mem_of_mem_drop (List.mem_of_mem_take hf))
      have SA : Hid (∀ v, Below w.heap.size w v → StrsAt v (cutA la lc 1 1) N1) := fun v hb => by rw [hN1]; exact ((hL.below hb).cut hc).take _
      have NMS : Hid (∀ v, Below w.heap.size w v → Calls Tryd.prog 48 #[.slice (cutA la lc (m + 1) 1) (L.length - (m + 1)) (lc - (m + 1))] v (NumsV v (numsP (L.drop (m + 1))))) := fun v hb => by
        have h1 := numbers_any v (hd.below hb) (cutA la lc (m + 1) 1) (lc - (m + 1)) (L.drop (m + 1)) ((hL.below hb).cut hc) (by rw [List.length_drop]; omega) (fun f hf => hs f (List.mem_of_mem_drop hf))
        rw [List.length_drop] at h1
        exact h1
      have MKA : Hid (∀ v (i : Nat) (hi : i < N1.length) gx y, Below w.heap.size w v → NdO v gx y → Calls Tryd.prog 47 #[.pointer (some ⟨gx, 0, none⟩), .string ⟨N1[i].toArray⟩] v fun e w' => MarkV v gx y (.slice none 0 0) (markP y N1[i]) e w') := fun v i hi gx y hb hy =>
        mark_any v (hd.below hb) gx y _ hy.2 hy.1 ⟨N1[i].toArray⟩ (by have := hN1s _ (List.getElem_mem hi); show N1[i].toArray.size ≤ _; rw [List.size_toArray]; exact this)
      rw [← hN1] at ho3
      have RC1 := fun v => run_cut_lh (P := Tryd.prog) (kl := .i64) (kh := .i64) (L := (1 : Int)) (H := (m : Int)) Tryd.underlying41 Tryd.sizeStr la L.length lc 1 m rfl rfl hm1 (by omega) v
      have RC2 := fun v => run_cut_l (P := Tryd.prog) (kl := .i64) (L := (m : Int) + 1) Tryd.underlying41 Tryd.sizeStr la L.length lc (m + 1) rfl hmL v
      have hmI : (m : Int) + 1 ≤ 1000000 := by omega
      have hm0 : ¬ (m : Int) < 0 := by omega
      have hm0B : decide ((m : Int) < 0) = false := decide_eq_false hm0
      obtain ⟨m1, hm1'⟩ : ∃ m1, m1 = m - 1 := ⟨_, rfl⟩
      rw [← hm1'] at RC1 hN1l
      have hm1I : (m1 : Int) ≤ 1000000 := by omega
      obtain ⟨nm, hnm0⟩ : ∃ nm, nm = numsP (L.drop (m + 1)) := ⟨_, rfl⟩
      rw [← hnm0] at NMS ho3
      replace IX := Lib.hid IX
      replace SA := Lib.hid SA.out
      have S0 := Lib.hid S
      have ho4 := Lib.hid ho3
      subst ea
      replace hN1l := Lib.hid hN1l
      have hnn2 := Lib.hid hnn
      obtain ⟨gx, hgx⟩ : ∃ gx, gx = w.heap.size := ⟨_, rfl⟩
      obtain ⟨w1, hw1⟩ : ∃ w1, w1 = w.alloc (.cells #[.int .u64 0, .int .u64 0, .int .u64 0, .slice none 0 0] TAn) := ⟨_, rfl⟩
      have r1 : RowAt w1 gx TAn [.int .u64 ((0 : Nat) : Int), .int .u64 ((0 : Nat) : Int), .int .u64 ((0 : Nat) : Int), .slice none 0 0] := by rw [hw1]; exact RowAt.new #[.int .u64 0, .int .u64 0, .int .u64 0, .slice none 0 0] hgx
      have B1 : Below w.heap.size w w1 := by rw [hw1]; exact balloc (Below.refl _ _) _
      have M1 : Hid (∃ y, marksP ⟨0, 0, 0, []⟩ (N1.take 0) = some y ∧ NdO w1 gx y) := ⟨⟨0, 0, 0, []⟩, by rw [List.take_zero]; rfl, r1, by unfold u64ok; decide, by unfold u64ok; decide, by unfold u64ok; decide⟩
      replace B1 := Lib.hid B1
      replace hgx := Lib.hid hgx
      replace hw1 := Lib.hid hw1
      clear hq hqd hcell hw ho hL hs hl hc ho2 ho3 hd hti htp hkt hm hN1 hN1s S hm1 hmL hm1' hnm0 hnn h0 r1
      generalize L.length = ln at *
      have c1L : Hid (∀ v, Below w.heap.size w v → v.cell? ⟨b, off, none⟩ = some (.string ⟨#[110, 111, 100, 101]⟩)) := fun v hb => bcell hb c1
      go_enter Tryd.func24, Tryd.ntmps24
      go_wp2_with fail
      refine IX.out.mono ?_
      rintro e w' ⟨rfl, rfl⟩
      clear IX
      go_upto_region 2 with (fail)
      go_upto_region 5 with (fail)
      rw [← hw1.out, ← hgx.out]
      go_wp2
      go_loopw [4, 25] (fun rv iv wr => ∃ j : Nat, rv = .bool false ∧ iv = .int .i64 (j : Int) ∧ j ≤ m1 ∧ Hid (∃ y, marksP ⟨0, 0, 0, []⟩ (N1.take j) = some y ∧ NdO wr gx y) ∧ Hid (Below w.heap.size w wr)) (fun _ iv _ => m1 - (intOf iv).toNat)
      case atStart => exact ⟨0, rfl, rfl, Nat.zero_le _, M1, B1⟩
      case round =>
        obtain ⟨j, rfl, rfl, hj, M, Z⟩ := hrel
        clear M1 B1 RC1
        by_cases hlt : j < m1
        · have hlI : (j : Int) < (m1 : Int) := by omega
          have hjN : j < N1.length := by have := hN1l.out; omega
          obtain ⟨sb, so, es, hsc⟩ := SA.out wr Z.out (by omega)
          have cj := hsc j hjN
          obtain ⟨y, hy1, hy2⟩ := M.out
          have C1 := Lib.hid (MKA.out wr j hjN gx y Z.out hy2)
          obtain ⟨st1, st2⟩ := marks_step N1 j hjN _ y hy1
          generalize (⟨N1[j].toArray⟩ : ByteArray) = qj at cj C1
          have okz : ∀ z, markP y N1[j] = some z → (u64ok z.need ∧ u64ok z.ban ∧ u64ok z.inn) := fun z h => (mark_some h hy2.2).1
          generalize markP y N1[j] = mo at C1 st1 st2 okz
          rw [es] at *
          clear hsc hy1 hjN M NMS RC2 c1L hy2
          cases mo with
          | none =>
            have hon : o = none := by rw [ho4.out, st1 rfl]; rfl
            have hf := Lib.hid (NO.out hon)
            clear st1 st2 NO MKA SA hon okz
            go_wp2_with fail
            refine C1.out.mono ?_
            rintro e w3 ⟨⟨rfl, _⟩, k3⟩
            have hg := Lib.hid (hf.out w3 (Tame.of_below (k3.below Z.out (fun j hj => by rw [hj, hgx.out]; exact Nat.le_refl _))))
            clear k3 C1 hf
            go_wp2
            go_ret
            exact hg.out
          | some z =>
            have hz := st2 z rfl
            clear st1 st2 MKA SA NO
            go_wp2_with fail
            refine C1.out.mono ?_
            rintro e w3 ⟨⟨rfl, q3⟩, k3⟩
            have Z3 : Hid (Below w.heap.size w w3) := k3.below Z.out (fun j hj => by rw [hj, hgx.out]; exact Nat.le_refl _)
            have M3 : Hid (∃ y, marksP ⟨0, 0, 0, []⟩ (N1.take (j + 1)) = some y ∧ NdO w3 gx y) := ⟨z, hz, q3, okz z rfl⟩
            clear k3 C1 q3 hz okz
            go_wp2
            go_roundw
            case rel => exact ⟨j + 1, rfl, by go_num, by omega, M3, Z3⟩
            case measure => simp [intOf]; omega
        · have hlI : ¬ (j : Int) < (m1 : Int) := by omega
          obtain ⟨y, hy1, hy2⟩ := M.out
          rw [List.take_of_length_le (by have := hN1l.out; omega)] at hy1
          have ho5 : Hid (o = nodO A (endN (some y) nm)) := by show _ = _; rw [ho4.out, hy1]
          have N1' := Lib.hid (NMS.out wr Z.out)
          have qy := Lib.hid hy2.1
          clear hy1 hy2 M MKA SA NMS c1L ho4 hlt
          go_wp2_with fail
          refine N1'.out.mono ?_
          rintro e w3 hnm
          obtain ⟨oa, on, oc, bb, rfl, hb3, hway⟩ := hnm.any2
          have Z3 := btrans Z.out hb3
          have q3 := qy.out.below hb3
          have c3 : w3.cell? ⟨gx, 3, none⟩ = some (.slice none 0 0) := q3.cell 3
          have f3 := q3.free 3
          replace hway := Lib.hid hway
          replace Z3 := Lib.hid Z3
          replace hb3 := Lib.hid hb3
          replace q3 := Lib.hid q3
          clear hnm N1' qy RC2
          go_upto_region 13 with (fail)
          have q4 := q3.out.set 3 (.slice oa on oc)
          have k4 : Keeps w3 (w3.setCell ⟨gx, 3, none⟩ (.slice oa on oc)) (fun j => j = gx) := Keeps.set _ _ _ _ rfl
          generalize w3.setCell ⟨gx, 3, none⟩ (.slice oa on oc) = w4 at q4 k4 ⊢
          have Z4 : Below w.heap.size w w4 := k4.below Z3.out (fun j hj => by rw [hj, hgx.out]; exact Nat.le_refl _)
          have S4 := S0.out.below Z4 neRI
          have b34 : Hid (Keeps w3 w4 (fun j => j = gx)) := k4
          have RXX : RowAt w4 gx TAn [.int .u64 y.need, .int .u64 y.ban, .int .u64 y.inn, .slice oa on oc] := q4
          obtain ⟨row, hrow⟩ : ∃ row : List Value, row = [.int .u64 y.need, .int .u64 y.ban, .int .u64 y.inn, .slice oa on oc] := ⟨_, rfl⟩
          have hr4 : row.length = 4 := by rw [hrow]; rfl
          have hr1 : ∀ v ∈ row, v.oneCell' = true := by
            rw [hrow]
            intro v hv
            simp only [List.mem_cons, List.not_mem_nil, or_false] at hv
            rcases hv with rfl | rfl | rfl | rfl <;> rfl
          rw [← hrow] at RXX
          have c2 : w4.cell? ⟨g, 2, none⟩ = some (.slice na A.nodes.length nc) := S4.box.cell 2
          have own4 := S4.own
          have RB : ∀ v, Keeps w4 v (fun j => (Value.slice na A.nodes.length nc).ownBlock = some j) → RowAt v g TRd [.int .i64 A.sets, .slice ia A.init.length ic, .slice na A.nodes.length nc] := fun v hk => RowAt.keeps S4.box hk (fun hj => by
            obtain ⟨_, c, hc⟩ := own_type own4 hj
            rw [show w4.heap[g]? = _ from S4.box] at hc
            injection hc with hc
            injection hc with _ hc _
            exact neRA hc.symm)
          have RX : ∀ v, Keeps w4 v (fun j => (Value.slice na A.nodes.length nc).ownBlock = some j) → RowAt v gx TAn row := fun v hk => RowAt.keeps RXX hk (fun hj => by
            have h1 := (OwnR.lt S0.out.own hj).2
            have h2 := hgx.out
            omega)
          have hnb := hnn2.out
          obtain ⟨nn, hnn⟩ : ∃ n, n = A.nodes.length := ⟨_, rfl⟩
          rw [← hnn] at RB RX own4 c2 hnb
          replace hnn := Lib.hid hnn
          replace S4 := Lib.hid S4
          replace Z4 := Lib.hid Z4
          replace hrow := Lib.hid hrow
          have hb4 : Hid (base ≤ w4.heap.size) := Nat.le_trans hbw Z4.out.size
          replace RB := Lib.hid RB
          replace RX := Lib.hid RX
          have q3T := q3
          clear q4 k4 q3 c3 f3 RXX c2
          refine wp_region_dyn (by kernel_rfl) 12 (fun v => Keeps w4 v (fun j => (Value.slice na nn nc).ownBlock = some j)) (fun i => ([some (.pointer (some ⟨g, 0, none⟩)), some (.pointer (some ⟨g, 0, none⟩)), some (.pointer (some ⟨g, 0, none⟩)), some (.pointer (some ⟨g, 0, none⟩)), some (.pointer (some ⟨g, 2, none⟩)), some (.slice na nn nc), some (.agg row.toArray), none, none, some (.pointer (some ⟨g, 0, none⟩)), some (.pointer (some ⟨g, 0, none⟩)), some (.pointer (some ⟨g, 2, none⟩))] : List (Option Value)).getD i none) (fun i => ([false, false, false, false, false, false, false, true, true, false, false, false] : List Bool).getD i false) (Ap1 w4 base TAn 4 nn na nc cells row) (by kernel_rfl) (by kernel_rfl) (by kernel_rfl) (Keeps.of_below (Below.refl _ _).drew) (fun rho => Ap1.start own4 rho) ?_ ?_ ?_
          · intro i hi hdy
            match i, hi, hdy with
            | 0, _, _ =>
              refine ⟨_, rfl, fun L rho w h => h.pass (by decide) (by decide), ?_⟩
              intro o ho ac w' hR hF hX
              simp only [List.getElem?_toArray, List.getElem?_cons_zero, Option.some.injEq] at ho
              subst ho
              refine ⟨fun h => (by cases h), fun K hK => ?_⟩
              have e0 : ac.tmps.getD 0 undef = .pointer (some ⟨g, 0, none⟩) := hF 0 (notDst_spec (by kernel_rfl))
              have d0 := (Array.getD_eq_getD_getElem? (xs := ac.tmps) (i := 0) (d := undef)).symm.trans e0
              clear hX hF
              go_simp
              exact hK
            | 1, _, _ =>
              refine ⟨_, rfl, fun L rho w h => h.pass (by decide) (by decide), ?_⟩
              intro o ho ac w' hR hF hX
              simp only [List.getElem?_toArray, List.getElem?_cons_zero, List.getElem?_cons_succ, Option.some.injEq] at ho
              subst ho
              refine ⟨fun h => (by cases h), fun K hK => ?_⟩
              have e0 : ac.tmps.getD 0 undef = .pointer (some ⟨g, 0, none⟩) := hF 0 (notDst_spec (by kernel_rfl))
              have d0 := (Array.getD_eq_getD_getElem? (xs := ac.tmps) (i := 0) (d := undef)).symm.trans e0
              clear hX hF
              go_simp
              exact hK
            | 2, _, _ =>
              refine ⟨_, rfl, fun L rho w h => h.pass (by decide) (by decide), ?_⟩
              intro o ho ac w' hR hF hX
              simp only [List.getElem?_toArray, List.getElem?_cons_zero, List.getElem?_cons_succ, Option.some.injEq] at ho
              subst ho
              refine ⟨fun h => (by cases h), fun K hK => ?_⟩
              have e44 : ac.tmps.getD 44 undef = .pointer (some ⟨g, 0, none⟩) := hX 1 (dep_spec (by kernel_rfl)) _ rfl
              have d44 := (Array.getD_eq_getD_getElem? (xs := ac.tmps) (i := 44) (d := undef)).symm.trans e44
              clear hX hF
              go_simp
              exact hK
            | 3, _, _ =>
              refine ⟨_, rfl, fun L rho w h => h.pass (by decide) (by decide), ?_⟩
              intro o ho ac w' hR hF hX
              simp only [List.getElem?_toArray, List.getElem?_cons_zero, List.getElem?_cons_succ, Option.some.injEq] at ho
              subst ho
              refine ⟨fun h => (by cases h), fun K hK => ?_⟩
              have e45 : ac.tmps.getD 45 undef = .pointer (some ⟨g, 0, none⟩) := hX 2 (dep_spec (by kernel_rfl)) _ rfl
              have d45 := (Array.getD_eq_getD_getElem? (xs := ac.tmps) (i := 45) (d := undef)).symm.trans e45
              clear hX hF
              go_simp
              exact hK
            | 4, _, _ =>
              refine ⟨_, rfl, fun L rho w h => h.pass (by decide) (by decide), ?_⟩
              intro o ho ac w' hR hF hX
              simp only [List.getElem?_toArray, List.getElem?_cons_zero, List.getElem?_cons_succ, Option.some.injEq] at ho
              subst ho
              refine ⟨fun h => (by cases h), fun K hK => ?_⟩
              have e46 : ac.tmps.getD 46 undef = .pointer (some ⟨g, 0, none⟩) := hX 3 (dep_spec (by kernel_rfl)) _ rfl
              have d46 := (Array.getD_eq_getD_getElem? (xs := ac.tmps) (i := 46) (d := undef)).symm.trans e46
              clear hX hF
              go_simp
              exact hK
            | 5, _, _ =>
              refine ⟨_, rfl, fun L rho w h => h.pass (by decide) (by decide), ?_⟩
              intro o ho ac w' hR hF hX
              simp only [List.getElem?_toArray, List.getElem?_cons_zero, List.getElem?_cons_succ, Option.some.injEq] at ho
              subst ho
              refine ⟨fun h => (by cases h), fun K hK => ?_⟩
              have e47 : ac.tmps.getD 47 undef = .pointer (some ⟨g, 2, none⟩) := hX 4 (dep_spec (by kernel_rfl)) _ rfl
              have d47 := (Array.getD_eq_getD_getElem? (xs := ac.tmps) (i := 47) (d := undef)).symm.trans e47
              have q0 : w'.cell? ⟨g, 2, none⟩ = some (.slice na nn nc) := by
                have h1 := (RB.out w' hR).cell 2
                rw [h1]
                rfl
              clear hX hF
              go_simp
              exact hK
            | 6, _, _ =>
              refine ⟨_, rfl, fun L rho w h => h.pass (by decide) (by decide), ?_⟩
              intro o ho ac w' hR hF hX
              simp only [List.getElem?_toArray, List.getElem?_cons_zero, List.getElem?_cons_succ, Option.some.injEq] at ho
              subst ho
              refine ⟨fun h => (by cases h), fun K hK => ?_⟩
              have e6 : ac.tmps.getD 6 undef = .pointer (some ⟨gx, 0, none⟩) := hF 6 (notDst_spec (by kernel_rfl))
              have d6 := (Array.getD_eq_getD_getElem? (xs := ac.tmps) (i := 6) (d := undef)).symm.trans e6
              have qx := RX.out w' hR
              clear hX hF
              exact step_load undAn infoAn qx hr4 rfl 6 rfl e6 hK
            | 7, _, hdy => exact absurd (show true = false from hdy) (by decide)
            | 8, _, hdy => exact absurd (show true = false from hdy) (by decide)
            | 9, _, _ =>
              refine ⟨_, rfl, fun L rho w h => h.pass (by decide) (by decide), ?_⟩
              intro o ho ac w' hR hF hX
              simp only [List.getElem?_toArray, List.getElem?_cons_zero, List.getElem?_cons_succ, Option.some.injEq] at ho
              subst ho
              refine ⟨fun h => (by cases h), fun K hK => ?_⟩
              have e43 : ac.tmps.getD 43 undef = .pointer (some ⟨g, 0, none⟩) := hX 0 (dep_spec (by kernel_rfl)) _ rfl
              have d43 := (Array.getD_eq_getD_getElem? (xs := ac.tmps) (i := 43) (d := undef)).symm.trans e43
              have e44 : ac.tmps.getD 44 undef = .pointer (some ⟨g, 0, none⟩) := hX 1 (dep_spec (by kernel_rfl)) _ rfl
              have d44 := (Array.getD_eq_getD_getElem? (xs := ac.tmps) (i := 44) (d := undef)).symm.trans e44
              have e45 : ac.tmps.getD 45 undef = .pointer (some ⟨g, 0, none⟩) := hX 2 (dep_spec (by kernel_rfl)) _ rfl
              have d45 := (Array.getD_eq_getD_getElem? (xs := ac.tmps) (i := 45) (d := undef)).symm.trans e45
              have e46 : ac.tmps.getD 46 undef = .pointer (some ⟨g, 0, none⟩) := hX 3 (dep_spec (by kernel_rfl)) _ rfl
              have d46 := (Array.getD_eq_getD_getElem? (xs := ac.tmps) (i := 46) (d := undef)).symm.trans e46
              have e47 : ac.tmps.getD 47 undef = .pointer (some ⟨g, 2, none⟩) := hX 4 (dep_spec (by kernel_rfl)) _ rfl
              have d47 := (Array.getD_eq_getD_getElem? (xs := ac.tmps) (i := 47) (d := undef)).symm.trans e47
              have e48 : ac.tmps.getD 48 undef = .slice na nn nc := hX 5 (dep_spec (by kernel_rfl)) _ rfl
              have d48 := (Array.getD_eq_getD_getElem? (xs := ac.tmps) (i := 48) (d := undef)).symm.trans e48
              have e49 : ac.tmps.getD 49 undef = .agg row.toArray := hX 6 (dep_spec (by kernel_rfl)) _ rfl
              have d49 := (Array.getD_eq_getD_getElem? (xs := ac.tmps) (i := 49) (d := undef)).symm.trans e49
              clear hX hF
              go_simp
              exact hK
            | 10, _, _ =>
              refine ⟨_, rfl, fun L rho w h => h.pass (by decide) (by decide), ?_⟩
              intro o ho ac w' hR hF hX
              simp only [List.getElem?_toArray, List.getElem?_cons_zero, List.getElem?_cons_succ, Option.some.injEq] at ho
              subst ho
              refine ⟨fun h => (by cases h), fun K hK => ?_⟩
              have e43 : ac.tmps.getD 43 undef = .pointer (some ⟨g, 0, none⟩) := hX 0 (dep_spec (by kernel_rfl)) _ rfl
              have d43 := (Array.getD_eq_getD_getElem? (xs := ac.tmps) (i := 43) (d := undef)).symm.trans e43
              have e44 : ac.tmps.getD 44 undef = .pointer (some ⟨g, 0, none⟩) := hX 1 (dep_spec (by kernel_rfl)) _ rfl
              have d44 := (Array.getD_eq_getD_getElem? (xs := ac.tmps) (i := 44) (d := undef)).symm.trans e44
              have e45 : ac.tmps.getD 45 undef = .pointer (some ⟨g, 0, none⟩) := hX 2 (dep_spec (by kernel_rfl)) _ rfl
              have d45 := (Array.getD_eq_getD_getElem? (xs := ac.tmps) (i := 45) (d := undef)).symm.trans e45
              have e46 : ac.tmps.getD 46 undef = .pointer (some ⟨g, 0, none⟩) := hX 3 (dep_spec (by kernel_rfl)) _ rfl
              have d46 := (Array.getD_eq_getD_getElem? (xs := ac.tmps) (i := 46) (d := undef)).symm.trans e46
              have e47 : ac.tmps.getD 47 undef = .pointer (some ⟨g, 2, none⟩) := hX 4 (dep_spec (by kernel_rfl)) _ rfl
              have d47 := (Array.getD_eq_getD_getElem? (xs := ac.tmps) (i := 47) (d := undef)).symm.trans e47
              have e48 : ac.tmps.getD 48 undef = .slice na nn nc := hX 5 (dep_spec (by kernel_rfl)) _ rfl
              have d48 := (Array.getD_eq_getD_getElem? (xs := ac.tmps) (i := 48) (d := undef)).symm.trans e48
              have e49 : ac.tmps.getD 49 undef = .agg row.toArray := hX 6 (dep_spec (by kernel_rfl)) _ rfl
              have d49 := (Array.getD_eq_getD_getElem? (xs := ac.tmps) (i := 49) (d := undef)).symm.trans e49
              have e52 : ac.tmps.getD 52 undef = .pointer (some ⟨g, 0, none⟩) := hX 9 (dep_spec (by kernel_rfl)) _ rfl
              have d52 := (Array.getD_eq_getD_getElem? (xs := ac.tmps) (i := 52) (d := undef)).symm.trans e52
              clear hX hF
              go_simp
              exact hK
            | 11, _, _ =>
              refine ⟨_, rfl, fun L rho w h => h.pass (by decide) (by decide), ?_⟩
              intro o ho ac w' hR hF hX
              simp only [List.getElem?_toArray, List.getElem?_cons_zero, List.getElem?_cons_succ, Option.some.injEq] at ho
              subst ho
              refine ⟨fun h => (by cases h), fun K hK => ?_⟩
              have e43 : ac.tmps.getD 43 undef = .pointer (some ⟨g, 0, none⟩) := hX 0 (dep_spec (by kernel_rfl)) _ rfl
              have d43 := (Array.getD_eq_getD_getElem? (xs := ac.tmps) (i := 43) (d := undef)).symm.trans e43
              have e44 : ac.tmps.getD 44 undef = .pointer (some ⟨g, 0, none⟩) := hX 1 (dep_spec (by kernel_rfl)) _ rfl
              have d44 := (Array.getD_eq_getD_getElem? (xs := ac.tmps) (i := 44) (d := undef)).symm.trans e44
              have e45 : ac.tmps.getD 45 undef = .pointer (some ⟨g, 0, none⟩) := hX 2 (dep_spec (by kernel_rfl)) _ rfl
              have d45 := (Array.getD_eq_getD_getElem? (xs := ac.tmps) (i := 45) (d := undef)).symm.trans e45
              have e46 : ac.tmps.getD 46 undef = .pointer (some ⟨g, 0, none⟩) := hX 3 (dep_spec (by kernel_rfl)) _ rfl
              have d46 := (Array.getD_eq_getD_getElem? (xs := ac.tmps) (i := 46) (d := undef)).symm.trans e46
              have e47 : ac.tmps.getD 47 undef = .pointer (some ⟨g, 2, none⟩) := hX 4 (dep_spec (by kernel_rfl)) _ rfl
              have d47 := (Array.getD_eq_getD_getElem? (xs := ac.tmps) (i := 47) (d := undef)).symm.trans e47
              have e48 : ac.tmps.getD 48 undef = .slice na nn nc := hX 5 (dep_spec (by kernel_rfl)) _ rfl
              have d48 := (Array.getD_eq_getD_getElem? (xs := ac.tmps) (i := 48) (d := undef)).symm.trans e48
              have e49 : ac.tmps.getD 49 undef = .agg row.toArray := hX 6 (dep_spec (by kernel_rfl)) _ rfl
              have d49 := (Array.getD_eq_getD_getElem? (xs := ac.tmps) (i := 49) (d := undef)).symm.trans e49
              have e53 : ac.tmps.getD 53 undef = .pointer (some ⟨g, 0, none⟩) := hX 10 (dep_spec (by kernel_rfl)) _ rfl
              have d53 := (Array.getD_eq_getD_getElem? (xs := ac.tmps) (i := 53) (d := undef)).symm.trans e53
              clear hX hF
              go_simp
              exact hK
            | k + 12, hk, _ => omega
          · intro i hi hdy
            match i, hi, hdy with
            | 0, _, hdy => exact absurd (show false = true from hdy) (by decide)
            | 1, _, hdy => exact absurd (show false = true from hdy) (by decide)
            | 2, _, hdy => exact absurd (show false = true from hdy) (by decide)
            | 3, _, hdy => exact absurd (show false = true from hdy) (by decide)
            | 4, _, hdy => exact absurd (show false = true from hdy) (by decide)
            | 5, _, hdy => exact absurd (show false = true from hdy) (by decide)
            | 6, _, hdy => exact absurd (show false = true from hdy) (by decide)
            | 7, _, _ =>
              intro o ho ac w' L rho hR hD hl hc hdep hX hF K hK
              simp only [List.getElem?_toArray, List.getElem?_cons_zero, List.getElem?_cons_succ, Option.some.injEq] at ho
              subst ho
              have e49 : ac.tmps.getD 49 undef = .agg row.toArray := hX 6 (dep_spec (by kernel_rfl)) _ rfl
              have d49 := (Array.getD_eq_getD_getElem? (xs := ac.tmps) (i := 49) (d := undef)).symm.trans e49
              go_simp
              rw [build4 hr4]
              refine hK _ _ (hR.trans (Keeps.alloc _ _ _) (fun j _ e => e)) (fun h => (by cases h)) (fun u h => (by cases h)) ?_
              exact hD.elem (notL hl hc (dep_spec (by kernel_rfl)))
            | 8, _, _ =>
              intro o ho ac w' L rho hR hD hl hc hdep hX hF K hK
              simp only [List.getElem?_toArray, List.getElem?_cons_zero, List.getElem?_cons_succ, Option.some.injEq] at ho
              subst ho
              have e48 : ac.tmps.getD 48 undef = .slice na nn nc := hX 5 (dep_spec (by kernel_rfl)) _ rfl
              have d48 := (Array.getD_eq_getD_getElem? (xs := ac.tmps) (i := 48) (d := undef)).symm.trans e48
              have r50 : ac.tmps.getD 50 undef = rho 7 := (hdep 7 (dep_spec (by kernel_rfl))).2
              have hl7 := (hdep 7 (dep_spec (by kernel_rfl))).1
              obtain ⟨h1, h2, h3⟩ := hD.1 hl
              obtain ⟨g5, e5, rg5⟩ := h3 hl7
              rw [e5] at r50
              refine step_appG rfl _ _ 23 TAn (.agg #[.int .u64 0, .int .u64 0, .int .u64 0, .slice none 0 0]) 4 48 rfl Tryd.underlying23 infoAn3 rfl (by decide) base na nn nc cells (eval_of e48) h1 (some ⟨g5, 0, none⟩) 1 1 row (eval_of r50) hr4 (SrcAt.row rg5) hr1 (by unfold maxLen; omega) (by omega) (Nat.le_trans hb4.out hR.size) ?_
              intro a' c' w2' ho hg _
              refine hK _ _ (hR.trans (Keeps.of_grown hg (fun j hj => hj)) (fun j _ e => e)) (fun h => (by cases h)) (fun u h => (by cases h)) ?_
              exact hD.app hl ho hg
            | 9, _, hdy => exact absurd (show false = true from hdy) (by decide)
            | 10, _, hdy => exact absurd (show false = true from hdy) (by decide)
            | 11, _, hdy => exact absurd (show false = true from hdy) (by decide)
            | k + 12, hk, _ => omega
          · rintro ⟨tm, df⟩ w8 rho hdf hsz hF hR9 hX hV hD
            obtain rfl : df = [] := hdf
            obtain ⟨q, rfl⟩ := frame56 tm hsz
            obtain ⟨a', c', wa, ea8, own8, hbA, hg8⟩ := (hD (fun i => decide (i < 12)) (fun i hi => decide_eq_true hi) (fun i hi => decide_eq_false (by omega))).2 rfl
            have k51 : q 51 = .slice a' (nn + 1) c' := (hV 8 (by decide)).trans ea8
            have k54 : q 54 = .pointer (some ⟨g, 2, none⟩) := hX 11 _ (by decide) rfl
            simp only [k51, k54]
            clear k51 k54 hV hX hD
            have k0 := hF 0 (notDst_spec (by kernel_rfl))
            have k1 := hF 1 (notDst_spec (by kernel_rfl))
            have k2 := hF 2 (notDst_spec (by kernel_rfl))
            have k3 := hF 3 (notDst_spec (by kernel_rfl))
            have k4 := hF 4 (notDst_spec (by kernel_rfl))
            have k5 := hF 5 (notDst_spec (by kernel_rfl))
            have k6 := hF 6 (notDst_spec (by kernel_rfl))
            have k7 := hF 7 (notDst_spec (by kernel_rfl))
            have k8 := hF 8 (notDst_spec (by kernel_rfl))
            have k9 := hF 9 (notDst_spec (by kernel_rfl))
            have k10 := hF 10 (notDst_spec (by kernel_rfl))
            have k11 := hF 11 (notDst_spec (by kernel_rfl))
            have k12 := hF 12 (notDst_spec (by kernel_rfl))
            have k13 := hF 13 (notDst_spec (by kernel_rfl))
            have k14 := hF 14 (notDst_spec (by kernel_rfl))
            have k15 := hF 15 (notDst_spec (by kernel_rfl))
            have k16 := hF 16 (notDst_spec (by kernel_rfl))
            have k17 := hF 17 (notDst_spec (by kernel_rfl))
            have k18 := hF 18 (notDst_spec (by kernel_rfl))
            have k19 := hF 19 (notDst_spec (by kernel_rfl))
            have k20 := hF 20 (notDst_spec (by kernel_rfl))
            have k21 := hF 21 (notDst_spec (by kernel_rfl))
            have k22 := hF 22 (notDst_spec (by kernel_rfl))
            have k23 := hF 23 (notDst_spec (by kernel_rfl))
            have k24 := hF 24 (notDst_spec (by kernel_rfl))
            have k25 := hF 25 (notDst_spec (by kernel_rfl))
            have k26 := hF 26 (notDst_spec (by kernel_rfl))
            have k27 := hF 27 (notDst_spec (by kernel_rfl))
            have k28 := hF 28 (notDst_spec (by kernel_rfl))
            have k29 := hF 29 (notDst_spec (by kernel_rfl))
            have k30 := hF 30 (notDst_spec (by kernel_rfl))
            have k31 := hF 31 (notDst_spec (by kernel_rfl))
            have k32 := hF 32 (notDst_spec (by kernel_rfl))
            have k33 := hF 33 (notDst_spec (by kernel_rfl))
            have k34 := hF 34 (notDst_spec (by kernel_rfl))
            have k35 := hF 35 (notDst_spec (by kernel_rfl))
            have k36 := hF 36 (notDst_spec (by kernel_rfl))
            have k37 := hF 37 (notDst_spec (by kernel_rfl))
            have k38 := hF 38 (notDst_spec (by kernel_rfl))
            have k39 := hF 39 (notDst_spec (by kernel_rfl))
            have k40 := hF 40 (notDst_spec (by kernel_rfl))
            have k41 := hF 41 (notDst_spec (by kernel_rfl))
            have k42 := hF 42 (notDst_spec (by kernel_rfl))
            have k55 := hF 55 (notDst_spec (by kernel_rfl))
            simp only [Array.getD_eq_getD_getElem?, List.getElem?_toArray, List.getElem?_cons_succ, List.getElem?_cons_zero, Option.getD_some] at k0 k1 k2 k3 k4 k5 k6 k7 k8 k9 k10 k11 k12 k13 k14 k15 k16 k17 k18 k19 k20 k21 k22 k23 k24 k25 k26 k27 k28 k29 k30 k31 k32 k33 k34 k35 k36 k37 k38 k39 k40 k41 k42 k55
            simp only [k0, k1, k2, k3, k4, k5, k6, k7, k8, k9, k10, k11, k12, k13, k14, k15, k16, k17, k18, k19, k20, k21, k22, k23, k24, k25, k26, k27, k28, k29, k30, k31, k32, k33, k34, k35, k36, k37, k38, k39, k40, k41, k42, k55]
            clear k0 k1 k2 k3 k4 k5 k6 k7 k8 k9 k10 k11 k12 k13 k14 k15 k16 k17 k18 k19 k20 k21 k22 k23 k24 k25 k26 k27 k28 k29 k30 k31 k32 k33 k34 k35 k36 k37 k38 k39 k40 k41 k42 k55
            clear hF hsz
            have bx8 := RB.out w8 hR9
            have c82 : w8.cell? ⟨g, 2, none⟩ = some (.slice na nn nc) := by
              have h1 := bx8.cell 2
              rw [h1]
              rfl
            have f82 := bx8.free 2
            change wpAny _ _ _ _ 1 _ _ _
            refine wpAny_ready (rs := [12]) (by kernel_rfl) (by simp) ?_
            refine AllReady.cons (i := 12) rfl (fun K hK => ?_) AllReady.nil
            replace bx8 := Lib.hid bx8
            replace own8 := Lib.hid own8
            replace hbA := Lib.hid hbA
            replace hg8 := Lib.hid hg8
            replace ea8 := Lib.hid ea8
            replace hR9 := Lib.hid hR9
            go_simp
            refine hK _ _ ?_
            clear hK K
            refine ⟨by kernel_rfl, ?_⟩
            have bx9 := bx8.out.set 2 (.slice a' (nn + 1) c')
            have k9 : Keeps w8 (w8.setCell ⟨g, 2, none⟩ (.slice a' (nn + 1) c')) (fun j => j = g) := Keeps.set _ _ _ _ rfl
            generalize w8.setCell ⟨g, 2, none⟩ (.slice a' (nn + 1) c') = w9 at bx9 k9 ⊢
            have fin : Hid (LineV w base g o (.returned (.bool bb)) w9) := by
              have hn9 := hnn.out
              have bxx := bx8.out
              rw [hn9] at own8 hg8 bx9 bxx
              have P9 := AuB.push S4.out neRI neRA hbA.out own8.out hg8.out bxx k9 bx9
              have TT : Tame TRd base w w9 := (Tame.of_below Z4.out).trans P9.1
              refine ⟨?_, TT⟩
              rcases hway.out with ⟨hn, hb⟩ | ⟨xs, hn, hb, hon, hxs⟩
              · subst hb
                have e : o = none := by rw [ho5.out, hn]; rfl
                rw [e]
              · subst hb
                have e : o = some { A with nodes := A.nodes ++ [⟨y.need, y.ban, y.inn, xs⟩] } := by rw [ho5.out, hn]; rfl
                rw [e]
                refine ⟨rfl, _, _, _, _, _, P9.2 ⟨y.need, y.ban, y.inn, xs⟩ oa oc (by rw [hrow.out, hon]; rfl) ?_⟩
                have hx1 : OwnN .i64 w3 base TInt oa xs.length oc xs := by
                  rw [← hon]
                  exact OwnR.lowB hxs (Nat.le_trans hbw Z.out.size)
                have hx2 : OwnN .i64 w4 base TInt oa xs.length oc xs := hx1.keeps b34.out (fun j hj e => by
                  have hx1' : OwnR w3 base TInt 1 oa xs.length oc (xs.map (.int .i64)) := hx1
                  obtain ⟨_, c, hc⟩ := own_type hx1' hj
                  rw [e, show w3.heap[gx]? = _ from q3T.out] at hc
                  injection hc with hc
                  injection hc with _ hc _
                  exact absurd hc (by decide))
                exact hx2.tame (T := TRd) (base := base) (Tame.of_below hbA.out) neRI
            clear bx9 k9 bx8 own8 hbA hg8 ea8 hR9 c82 f82 RB RX hway ho5 S4 Z4 hrow b34 own4 hr4 hr1 q3T
            go_wp2
            go_ret
            exact fin.out
  · have hqs : ¬ q = ⟨#[110, 111, 100, 101]⟩ := fun e => hw (by rw [← hqd, e])
    have hqB := str_no hqs
    have hqB2 : (q.toList == [110, 111, 100, 101]) = false := by
      rw [beq_eq_false_iff_ne]
      intro e
      rw [ByteArray.toList_eq] at e
      exact hw (by rw [← hqd, e])
    rw [if_neg hw] at ho2
    have hf := Lib.hid (NO.out ho2 w (Tame.refl _ _ _))
    obtain ⟨ti, hti⟩ : ∃ ti, ti = toI L := ⟨_, rfl⟩
    rw [← hti] at IX
    replace IX := Lib.hid IX
    clear NO hq hqd hcell hw ho hL hs hl hc hqs ho2 hd hti S
    generalize L.length = ln at *
    subst ea
    clear h0
    go_enter Tryd.func24, Tryd.ntmps24
    go_wp2_with fail
    refine IX.out.mono ?_
    rintro e w1 ⟨rfl, rfl⟩
    clear IX
    go_wp2
    go_ret
    exact hf.out
end Go.Proofs.YtjacphcnanopjaaDoor
