/- An automaton is read of a text, walked: the program's Parse. Conditions: what the listed variables hold; short texts. -/
import Derived.Test.YtjacphcnanopjaaDoorAtJ
namespace Go.Proofs.YtjacphcnanopjaaDoor
open Go.Shelf Go.RowKit
set_option linter.unusedVariables false
set_option linter.unusedSimpArgs false

theorem infoAU : (Tryd.prog.info? AUT).map (·.size) = some 3 := by kernel_rfl
theorem undAU : ∃ d, Tryd.prog.underlying AUT = some d ∧ d.isRow = true := und_row (by kernel_rfl)
theorem results_ctt {fn : Func} {P : Program} {tmps : Array Value} {w : World} {a b c t : Nat} (hf : fn.results = #[.cell a t, .tmp b, .tmp c]) {g1 : Nat} {v1 v2 v3 : Value} (ha : tmps.getD a undef = .pointer (some ⟨g1, 0, none⟩)) (hb : tmps.getD b undef = v2) (hc : tmps.getD c undef = v3) (h1 : (loadVar t ⟨g1, 0, none⟩).run P w = .ok v1 w) : (results fn tmps).run P w = .ok (.tuple #[v1, v2, v3]) w := by
  subst hb
  subst hc
  rw [Array.getD_eq_getD_getElem?] at ha
  simp [results, hf, asAddr, ha, h1]
/-- what Parse gives, in memory -/
def ParsV (w : World) (o : AU × Nat × Int) (e : Ending) (w' : World) : Prop := ∃ ia ic na nc, e = .returned (.tuple #[.agg #[.int .i64 o.1.sets, .slice ia o.1.init.length ic, .slice na o.1.nodes.length nc], .int .i64 (o.2.1 : Int), .int .i64 o.2.2]) ∧ AuAt w' ia o.1.init.length na o.1.nodes.length o.1 ∧ Below w.heap.size w w'
theorem ParsV.no {w w' : World} {n : Nat} {c : Int} (hb : Below w.heap.size w w') : ParsV w (au0, n, c) (.returned (.tuple #[.agg #[.int .i64 0, .slice none 0 0, .slice none 0 0], .int .i64 (n : Int), .int .i64 c])) w' :=
  ⟨none, 0, none, 0, rfl, ⟨rfl, rfl, NumsAt.nil _ _ _, NodesAt.nil _ _⟩, hb⟩
/-- the reading, as far as it goes -/
structure RdL (w : World) (g gl : Nat) (ls : List (List UInt8)) (k : Nat) (wr : World) : Prop where
  st : ∃ B ia ic na nc cells, AuB TRd wr w.heap.size g B ia ic na nc cells ∧ readP au0 0 ls = readP B k (ls.drop k) ∧ AuRd B k 20000
  row : RowAt wr gl TStr (strV ls)
  bel : Below w.heap.size w wr

theorem AuB.other {T U : Nat} {w w' : World} {base g h : Nat} {A : AU} {ia : Option Addr} {ic : Nat} {na : Option Addr} {nc : Nat} {cells l : List Value} (S : AuB T w base g A ia ic na nc cells) (k : Keeps w w' (fun j => j = h)) (r : RowAt w h U l) (h1 : T ≠ U) (h2 : TInt ≠ U) (h3 : TAn ≠ U) (h4 : T ≠ TAn) : AuB T w' base g A ia ic na nc cells := by
  have tm : Tame U 0 w w' := Tame.box k (Nat.zero_le _) r
  refine ⟨S.box.tame tm h1 h4, S.lo, S.init.tame tm h2, ?_, S.nds.tame tm h2⟩
  refine OwnR.keeps S.own k (fun j hj e => ?_)
  obtain ⟨_, c, hc⟩ := own_type S.own hj
  rw [e, show w.heap[h]? = _ from r] at hc
  injection hc with hc
  injection hc with _ hc _
  exact h3 hc.symm
theorem AuRd.ok {B : AU} {k : Nat} (h : AuRd B k 20000) (hk : k ≤ 20001) : AuOk B ∧ AuFew B := by
  have hl := h.len
  refine ⟨⟨by have := h.tx.sets; omega, fun x hx => by have := h.tx.init x hx; omega, by have := h.il; omega, by omega, fun x hx => ?_⟩, ⟨by omega, by have := h.il; omega, fun x hx => by have := h.nl x hx; omega⟩⟩
  obtain ⟨⟨h1, h2, h3⟩, h4⟩ := h.tx.nodes x hx
  exact ⟨h1, h2, h3, by have := h.nl x hx; omega, fun n hn => by have := h4 n hn; omega⟩
theorem RdL.below {w : World} {g gl : Nat} {ls : List (List UInt8)} {k : Nat} {wr w' : World} (R : RdL w g gl ls k wr) (hb : Below wr.heap.size wr w') : RdL w g gl ls k w' := by
  obtain ⟨B, ia, ic, na, nc, cells, h1, h2, h3⟩ := R.st
  exact ⟨⟨B, ia, ic, na, nc, cells, h1.below hb neRI, h2, h3⟩, R.row.below hb, btrans R.bel hb⟩
/-- what a line gives in the reading -/
def RdE (w : World) (g gl g2 : Nat) (ls : List (List UInt8)) (k : Nat) (e : Ending) (w' : World) : Prop :=
  ((e = .returned (.bool true) ∧ RdL w g gl ls (k + 1) w') ∨ (e = .returned (.bool false) ∧ readP au0 0 ls = .inr k ∧ Below w.heap.size w w')) ∧ RowAt w' g2 AUT [.int .i64 0, .slice none 0 0, .slice none 0 0]
theorem rd_line {w wr : World} {g gl g2 : Nat} {ls : List (List UInt8)} {k : Nat} {B : AU} {ia : Option Addr} {ic : Nat} {na : Option Addr} {nc : Nat} {cells : List Value} (hk : k < ls.length) (S : AuB TRd wr w.heap.size g B ia ic na nc cells) (hr : readP au0 0 ls = readP B k (ls.drop k)) (hB : AuRd B k 20000) (hrow : RowAt wr gl TStr (strV ls)) (hb : Below w.heap.size w wr) (q2 : RowAt wr g2 AUT [.int .i64 0, .slice none 0 0, .slice none 0 0]) (hp : ∀ f ∈ ls, f.length ≤ 20000) {e : Ending} {w' : World} (h : LineV wr w.heap.size g (lineP B k (cutP 32 ls[k])) e w') : RdE w g gl g2 ls k e w' := by
  obtain ⟨h1, tm⟩ := h
  have hb' : Below w.heap.size w w' := tm.below hb (Nat.le_refl _)
  have q2' := q2.tame tm (by decide) (by decide)
  rw [List.drop_eq_getElem_cons hk, readP] at hr
  refine ⟨?_, q2'⟩
  cases ho : lineP B k (cutP 32 ls[k]) with
  | none =>
    rw [ho] at h1 hr
    exact .inr ⟨h1, hr, hb'⟩
  | some C =>
    rw [ho] at h1 hr
    obtain ⟨rfl, ja, jc, ma, mc, cs, SC⟩ := h1
    refine .inl ⟨rfl, ⟨C, ja, jc, ma, mc, cs, SC, hr, ?_⟩, hrow.tame tm (by decide) (by decide), hb'⟩
    exact line_some ho hB (Nat.le_trans (cut_len 32 _) (by have := hp _ (List.getElem_mem hk); omega))
/-- what the pieces of a line bring along -/
theorem piece_all {f : List UInt8} (hf : f.length ≤ 20000) : 0 < (cutP 32 f).length ∧ (cutP 32 f).length ≤ 1000000 ∧ ∀ x ∈ cutP 32 f, x.length ≤ 1000000 := by
  refine ⟨List.length_pos_iff.2 (cut_ne 32 f), by have := cut_len 32 f; omega, fun x hx => by have := piece_len f 32 x hx; omega⟩
theorem rd_head {w w4 : World} {g gl g2 g4 : Nat} {ls : List (List UInt8)} (hd : Door w4) (R : RdL w g gl ls 0 w4) (hk : 0 < ls.length) (r4 : RowAt w4 g4 TStr (strV (cutP 32 ls[0]))) (q2 : RowAt w4 g2 AUT [.int .i64 0, .slice none 0 0, .slice none 0 0]) (hp : ∀ f ∈ ls, f.length ≤ 20000) :
    Calls Tryd.prog 25 #[.pointer (some ⟨g, 0, none⟩), .slice (some ⟨g4, 0, none⟩) (cutP 32 ls[0]).length (cutP 32 ls[0]).length] w4 (RdE w g gl g2 ls 0) := by
  obtain ⟨B, ia, ic, na, nc, cells, S, hr, hB⟩ := R.st
  obtain ⟨p1, p2, p3⟩ := piece_all (hp _ (List.getElem_mem hk))
  exact (head_any w4 hd w.heap.size g B ia ic na nc cells S R.bel.size _ _ (cutP 32 ls[0]) p1 (StrsAt.of_row r4) (Nat.le_refl _) p2 p3).mono fun e w' h => rd_line hk S hr hB R.row R.bel q2 hp h
theorem rd_begin {w w4 : World} {g gl g2 g4 : Nat} {ls : List (List UInt8)} (hd : Door w4) (R : RdL w g gl ls 1 w4) (hk : 1 < ls.length) (r4 : RowAt w4 g4 TStr (strV (cutP 32 ls[1]))) (hg4 : g4 ≠ g) (q2 : RowAt w4 g2 AUT [.int .i64 0, .slice none 0 0, .slice none 0 0]) (hp : ∀ f ∈ ls, f.length ≤ 20000) :
    Calls Tryd.prog 26 #[.pointer (some ⟨g, 0, none⟩), .slice (some ⟨g4, 0, none⟩) (cutP 32 ls[1]).length (cutP 32 ls[1]).length] w4 (RdE w g gl g2 ls 1) := by
  obtain ⟨B, ia, ic, na, nc, cells, S, hr, hB⟩ := R.st
  obtain ⟨p1, p2, p3⟩ := piece_all (hp _ (List.getElem_mem hk))
  exact (begin_any w4 hd w.heap.size g B ia ic na nc cells S R.bel.size _ _ (cutP 32 ls[1]) p1 (StrsAt.of_row r4) (Nat.le_refl _) p2 p3 (fun ad e => by injection e with e; rw [← e]; exact hg4)).mono fun e w' h => rd_line hk S hr hB R.row R.bel q2 hp h
theorem rd_node {w w4 : World} {g gl g2 g4 k : Nat} {ls : List (List UInt8)} (hd : Door w4) (R : RdL w g gl ls k w4) (hk2 : 2 ≤ k) (hk : k < ls.length) (hlb : ls.length ≤ 20001) (r4 : RowAt w4 g4 TStr (strV (cutP 32 ls[k]))) (q2 : RowAt w4 g2 AUT [.int .i64 0, .slice none 0 0, .slice none 0 0]) (hp : ∀ f ∈ ls, f.length ≤ 20000) :
    Calls Tryd.prog 24 #[.pointer (some ⟨g, 0, none⟩), .slice (some ⟨g4, 0, none⟩) (cutP 32 ls[k]).length (cutP 32 ls[k]).length] w4 (RdE w g gl g2 ls k) := by
  obtain ⟨B, ia, ic, na, nc, cells, S, hr, hB⟩ := R.st
  obtain ⟨p1, p2, p3⟩ := piece_all (hp _ (List.getElem_mem hk))
  have hl := hB.len
  exact (node_any w4 hd w.heap.size g B ia ic na nc cells S R.bel.size _ _ (cutP 32 ls[k]) k hk2 p1 (StrsAt.of_row r4) (Nat.le_refl _) p2 p3 (by omega)).mono fun e w' h => rd_line hk S hr hB R.row R.bel q2 hp h
theorem diff_hit : ∀ (l m : List (List UInt8)) (i k : Nat), (∀ j, j < k → l[j]? = m[j]?) → k < l.length → k < m.length → l[k]? ≠ m[k]? → diffP i l m = some (i + k)
  | x :: l, y :: m, i, 0, h, h1, h2, h3 => by
    rw [diffP, if_neg (fun e => h3 (by rw [e]; rfl))]
    rfl
  | x :: l, y :: m, i, k + 1, h, h1, h2, h3 => by
    have h0 := h 0 (Nat.succ_pos _)
    have e : x = y := by injection h0
    rw [diffP, if_pos e, diff_hit l m (i + 1) k (fun j hj => h (j + 1) (by omega)) (by simpa using h1) (by simpa using h2) (by simpa using h3)]
    congr 1
    omega
theorem au3_one (a : Int) (b c : Value) (hb : b.oneCell' = true) (hc : c.oneCell' = true) : ∀ v ∈ [Value.int .i64 a, b, c], v.oneCell' = true := by
  intro v hv
  simp only [List.mem_cons, List.not_mem_nil, or_false] at hv
  rcases hv with rfl | rfl | rfl
  · rfl
  · exact hb
  · exact hc
set_option maxRecDepth 12000 in
set_option maxHeartbeats 16000000 in
theorem parse_any (w : World) (hd : Door w) (s : ByteArray) (hs : s.size ≤ 21000) :
    Calls Tryd.prog 12 #[.string s] w fun e w' => ParsV w (parseP s.data.toList) e w' := by
  obtain ⟨L, hL⟩ : ∃ L, L = s.data.toList := ⟨_, rfl⟩
  have hLn : s.size = L.length := by rw [hL, Array.length_toList]; rfl
  obtain ⟨o, ho⟩ : ∃ o, o = parseP s.data.toList := ⟨_, rfl⟩
  rw [← ho]
  rw [← hL] at ho
  unfold parseP at ho
  have hsI : (s.size : Int) ≤ 21000 := by omega
  obtain ⟨g2, hg2⟩ : ∃ g2, g2 = w.heap.size := ⟨_, rfl⟩
  obtain ⟨w1, hw1⟩ : ∃ w1, w1 = w.alloc (.cells #[.int .i64 0, .slice none 0 0, .slice none 0 0] AUT) := ⟨_, rfl⟩
  have r1 : RowAt w1 g2 AUT [.int .i64 0, .slice none 0 0, .slice none 0 0] := by rw [hw1]; exact RowAt.new #[.int .i64 0, .slice none 0 0, .slice none 0 0] hg2
  have B1 : Below w.heap.size w w1 := by rw [hw1]; exact balloc (Below.refl _ _) _
  by_cases h20 : 20000 < s.size
  · have h20I : (20000 : Int) < (s.size : Int) := by omega
    rw [if_pos (by omega)] at ho
    subst ho
    have q5 := r1
    have B5 := B1
    replace hw1 := Lib.hid hw1
    replace hg2 := Lib.hid hg2
    clear h20 hLn hL hs hd r1 B1
    go_enter Tryd.func12, Tryd.ntmps12
    go_upto_region 2 with (fail)
    rw [← hw1.out, ← hg2.out]
    refine wp_region_list ?_
    refine wpList_plain rfl (fun K hK => ?_)
    go_simp
    refine hK _ _ ?_
    clear hK K
    refine list_store (l := [.int .i64 0, .slice none 0 0, .slice none 0 0]) infoAU q5 rfl rfl (au3_one _ _ _ rfl rfl) rfl 2 18 rfl rfl rfl ?_
    intro w6 q6 k6
    have fin : Hid (ParsV w (au0, 0, 5) (.returned (.tuple #[.agg #[.int .i64 0, .slice none 0 0, .slice none 0 0], .int .i64 ((0 : Nat) : Int), .int .i64 5])) w6) := ParsV.no (k6.below B5 (fun j hj => by rw [hj, hg2.out]; exact Nat.le_refl _))
    have q6' := Lib.hid q6
    clear q5 B5 k6 q6
    refine wpList_plain rfl (fun K hK => ?_)
    go_simp
    refine hK _ _ ?_
    clear hK K
    refine wpList_plain rfl (fun K hK => ?_)
    go_simp
    refine hK _ _ ?_
    clear hK K
    refine wpList_nil ?_
    go_wp2
    refine bodyPost_ret (v := .tuple #[.agg ([.int .i64 0, .slice none 0 0, .slice none 0 0] : List Value).toArray, .int .i64 ((0 : Nat) : Int), .int .i64 5]) (results_ctt (a := 2) (b := 3) (c := 4) (by kernel_rfl) rfl rfl rfl (loadVar_whole undAU infoAU q6'.out rfl)) rfl ?_
    exact fin.out
  · have h20I : ¬ (20000 : Int) < (s.size : Int) := by omega
    rw [if_neg (by omega)] at ho
    have CS := cutsuf_d w1 s (by omega) 10
    rw [← hL] at CS
    by_cases hlast : L.getLast? = some 10
    · rw [if_neg (fun h => h hlast)] at ho
      rw [if_pos hlast, decide_eq_true hlast] at CS
      obtain ⟨bs, hbs⟩ : ∃ bs : ByteArray, bs = ⟨L.dropLast.toArray⟩ := ⟨_, rfl⟩
      rw [← hbs] at CS
      obtain ⟨ls, hls⟩ : ∃ ls, ls = (cutP 10 L).dropLast := ⟨_, rfl⟩
      have hls2 : cutP 10 bs.data.toList = ls := by rw [hbs, hls]; exact cut_dropLast 10 L hlast
      rw [← hls] at ho
      have hbz : bs.size ≤ 20000 := by
        have h1 : bs.size = L.dropLast.length := by rw [hbs]; exact List.size_toArray
        have h2 : L.dropLast.length = L.length - 1 := List.length_dropLast ..
        omega
      have hlsl : ls.length ≤ 20001 := by
        have h1 := cut_len 10 bs.data.toList
        rw [hls2, ← size_data] at h1
        omega
      have hlsp : ∀ f ∈ ls, f.length ≤ 20000 := fun f hf => by
        have h1 := piece_len bs.data.toList 10 f (by rw [hls2]; exact hf)
        rw [← size_data] at h1
        omega
      have hls0 : 0 < ls.length := by
        have h1 := cut_ne 10 bs.data.toList
        rw [hls2] at h1
        exact List.length_pos_iff.2 h1
      have SP : Hid (∀ v, Below w.heap.size w v → Calls Tryd.prog 23 #[.string bs, .string ⟨#[10]⟩] v fun e w' => e = .returned (.slice (some ⟨v.heap.size, 0, none⟩) ls.length ls.length) ∧ RowAt w' v.heap.size TStr (strV ls) ∧ Below v.heap.size v w') := fun v hb => by
        have h1 := split_d v (hd.below hb) bs (by omega) 10
        rw [hls2] at h1
        exact h1
      have SP2 : Hid (∀ v, Below w.heap.size w v → ∀ k (hk : k < ls.length), Calls Tryd.prog 23 #[.string ⟨ls[k].toArray⟩, .string ⟨#[32]⟩] v fun e w' => e = .returned (.slice (some ⟨v.heap.size, 0, none⟩) (cutP 32 ls[k]).length (cutP 32 ls[k]).length) ∧ RowAt w' v.heap.size TStr (strV (cutP 32 ls[k])) ∧ Below v.heap.size v w') := fun v hb k hk => by
        have h1 := split_d v (hd.below hb) ⟨ls[k].toArray⟩ (by have := hlsp _ (List.getElem_mem hk); show ls[k].toArray.size ≤ _; rw [List.size_toArray]; omega) 32
        exact h1
      obtain ⟨n, hn⟩ : ∃ n, n = ls.length := ⟨_, rfl⟩
      rw [← hn] at SP
      have hnI : (n : Int) ≤ 20001 := by omega
      replace CS := Lib.hid CS
      replace B1 := Lib.hid B1
      replace hw1 := Lib.hid hw1
      replace hg2 := Lib.hid hg2
      replace r1 := Lib.hid r1
      replace hn := Lib.hid hn
      replace hlsp := Lib.hid hlsp
      replace ho := Lib.hid ho
      replace hd := Lib.hid hd
      clear hbs hbz hls hls2 hlast h20 hLn hL hs hlsl hls0
      go_enter Tryd.func12, Tryd.ntmps12
      go_upto_region 3 with (fail)
      rw [← hw1.out, ← hg2.out]
      go_wp2_with fail
      refine CS.out.mono ?_
      rintro e w' ⟨rfl, rfl⟩
      have S1 := Lib.hid (SP.out w' B1.out)
      clear CS SP
      go_wp2_with fail
      refine S1.out.mono ?_
      rintro e w2 ⟨rfl, rl2, hb2⟩
      have B2 := btrans B1.out hb2
      obtain ⟨gl, hgl⟩ : ∃ gl, gl = w'.heap.size := ⟨_, rfl⟩
      rw [← hgl] at rl2 ⊢
      obtain ⟨g, hg⟩ : ∃ g, g = w2.heap.size := ⟨_, rfl⟩
      obtain ⟨w3, hw3⟩ : ∃ w3, w3 = w2.alloc (.cells #[.int .i64 0, .slice none 0 0, .slice none 0 0] TRd) := ⟨_, rfl⟩
      have r3 : RowAt w3 g TRd [.int .i64 0, .slice none 0 0, .slice none 0 0] := by rw [hw3]; exact RowAt.new #[.int .i64 0, .slice none 0 0, .slice none 0 0] hg
      have b3 : Below w2.heap.size w2 w3 := by rw [hw3]; exact balloc (Below.refl _ _) _
      have B3 := btrans B2 b3
      have R0 : Hid (RdL w g gl ls 0 w3) := ⟨⟨au0, none, 0, none, 0, [], ⟨r3, by rw [hg]; exact B2.size, OwnN.nil _ _ _ _, OwnR.nil _ _ _ _, rfl⟩, by rw [List.drop_zero], au0_rd _⟩, rl2.below b3, B3⟩
      have hgg : Hid (gl < g ∧ g2 < gl) := by
        have h1 := rl2.lt
        have h2 := r1.out.lt
        exact ⟨by omega, by omega⟩
      have r2 := Lib.hid ((r1.out.below hb2).below b3)
      replace hgl := Lib.hid hgl
      replace hg := Lib.hid hg
      replace hw3 := Lib.hid hw3
      clear S1 rl2 hb2 B2 r3 b3 B3 r1 B1
      go_upto_region 8 with (fail)
      rw [← hw3.out, ← hg.out]
      go_wp2
      go_loopw [3, 4, 35] (fun av cv iv wr => ∃ k : Nat, av = .int .i64 0 ∧ cv = .int .i64 0 ∧ iv = .int .i64 (k : Int) ∧ k ≤ n ∧ Hid (RdL w g gl ls k wr) ∧ Hid (RowAt wr g2 AUT [.int .i64 0, .slice none 0 0, .slice none 0 0])) (fun _ _ iv _ => n - (intOf iv).toNat)
      case atStart => exact ⟨0, rfl, rfl, rfl, Nat.zero_le _, R0, r2⟩
      case round =>
        obtain ⟨k, rfl, rfl, rfl, hk, R, rg2⟩ := hrel
        clear R0 r2
        by_cases hlt : k < n
        · have hlI : (k : Int) < (n : Int) := by omega
          have hkN : k < ls.length := by have := hn.out; omega
          have ck : wr.cell? ⟨gl, k, none⟩ = some (.string ⟨(ls[k]'hkN).toArray⟩) := (R.out.row.cell k).trans (strV_at ls k hkN)
          have C1 := Lib.hid (SP2.out wr R.out.bel k hkN)
          generalize (⟨(ls[k]'hkN).toArray⟩ : ByteArray) = q at ck C1
          by_cases k0 : k = 0
          · subst k0
            go_wp2_with fail
            refine C1.out.mono ?_
            rintro e w4 ⟨rfl, rl4, hb4⟩
            have B4 := btrans R.out.bel hb4
            have K4 := Lib.hid (rd_head (hd.out.below B4) (R.out.below hb4) hkN rl4 (rg2.out.below hb4) hlsp.out)
            clear R rg2 rl4 hb4 B4 C1 SP2
            go_wp2_with fail
            refine K4.out.mono ?_
            rintro e w5 ⟨⟨rfl, R5⟩ | ⟨rfl, hr5, B5⟩, q5⟩
            · have R5' := Lib.hid R5
              have q5' := Lib.hid q5
              clear R5 q5 K4
              go_wp2
              go_roundw
              case rel => exact ⟨1, rfl, rfl, by go_num, by omega, R5', q5'⟩
              case measure => simp [intOf]; omega
            · have ho2 := ho.out
              rw [hr5] at ho2
              dsimp only at ho2
              subst ho2
              clear hr5 K4 ho
              go_upto_region 18 with (fail)
              refine wp_region_list ?_
              refine wpList_plain rfl (fun K hK => ?_)
              go_simp
              refine hK _ _ ?_
              clear hK K
              refine wpList_plain rfl (fun K hK => ?_)
              go_simp
              refine hK _ _ ?_
              clear hK K
              refine list_store (l := [.int .i64 0, .slice none 0 0, .slice none 0 0]) infoAU q5 rfl rfl (au3_one _ _ _ rfl rfl) rfl 2 56 rfl rfl rfl ?_
              intro w6 q6 k6
              have fin : Hid (ParsV w (au0, 0, 3) (.returned (.tuple #[.agg #[.int .i64 0, .slice none 0 0, .slice none 0 0], .int .i64 ((0 : Nat) : Int), .int .i64 3])) w6) := ParsV.no (k6.below B5 (fun j hj => by rw [hj, hg2.out]; exact Nat.le_refl _))
              have q6' := Lib.hid q6
              clear q5 B5 k6 q6
              refine wpList_plain rfl (fun K hK => ?_)
              go_simp
              refine hK _ _ ?_
              clear hK K
              refine wpList_plain rfl (fun K hK => ?_)
              go_simp
              refine hK _ _ ?_
              clear hK K
              refine wpList_nil ?_
              go_wp2
              refine bodyPost_ret (v := .tuple #[.agg ([.int .i64 0, .slice none 0 0, .slice none 0 0] : List Value).toArray, .int .i64 ((0 : Nat) : Int), .int .i64 3]) (results_ctt (a := 2) (b := 3) (c := 4) (by kernel_rfl) rfl rfl rfl (loadVar_whole undAU infoAU q6'.out rfl)) rfl ?_
              exact fin.out
          · by_cases k1 : k = 1
            · subst k1
              go_wp2_with fail
              refine C1.out.mono ?_
              rintro e w4 ⟨rfl, rl4, hb4⟩
              have B4 := btrans R.out.bel hb4
              have hgs : g < wr.heap.size := by obtain ⟨B, ia, ic, na, nc, cells, h1, _⟩ := R.out.st; exact h1.box.lt
              have K4 := Lib.hid (rd_begin (hd.out.below B4) (R.out.below hb4) hkN rl4 (by omega) (rg2.out.below hb4) hlsp.out)
              clear R rg2 rl4 hb4 B4 C1 SP2 hgs k0
              go_wp2_with fail
              refine K4.out.mono ?_
              rintro e w5 ⟨⟨rfl, R5⟩ | ⟨rfl, hr5, B5⟩, q5⟩
              · have R5' := Lib.hid R5
                have q5' := Lib.hid q5
                clear R5 q5 K4
                go_wp2
                go_roundw
                case rel => exact ⟨2, rfl, rfl, by go_num, by omega, R5', q5'⟩
                case measure => simp [intOf]; omega
              · have ho2 := ho.out
                rw [hr5] at ho2
                dsimp only at ho2
                subst ho2
                clear hr5 K4 ho
                go_upto_region 18 with (fail)
                refine wp_region_list ?_
                refine wpList_plain rfl (fun K hK => ?_)
                go_simp
                refine hK _ _ ?_
                clear hK K
                refine wpList_plain rfl (fun K hK => ?_)
                go_simp
                refine hK _ _ ?_
                clear hK K
                refine list_store (l := [.int .i64 0, .slice none 0 0, .slice none 0 0]) infoAU q5 rfl rfl (au3_one _ _ _ rfl rfl) rfl 2 56 rfl rfl rfl ?_
                intro w6 q6 k6
                have fin : Hid (ParsV w (au0, 1, 3) (.returned (.tuple #[.agg #[.int .i64 0, .slice none 0 0, .slice none 0 0], .int .i64 ((1 : Nat) : Int), .int .i64 3])) w6) := ParsV.no (k6.below B5 (fun j hj => by rw [hj, hg2.out]; exact Nat.le_refl _))
                have q6' := Lib.hid q6
                clear q5 B5 k6 q6
                refine wpList_plain rfl (fun K hK => ?_)
                go_simp
                refine hK _ _ ?_
                clear hK K
                refine wpList_plain rfl (fun K hK => ?_)
                go_simp
                refine hK _ _ ?_
                clear hK K
                refine wpList_nil ?_
                go_wp2
                refine bodyPost_ret (v := .tuple #[.agg ([.int .i64 0, .slice none 0 0, .slice none 0 0] : List Value).toArray, .int .i64 ((1 : Nat) : Int), .int .i64 3]) (results_ctt (a := 2) (b := 3) (c := 4) (by kernel_rfl) rfl rfl rfl (loadVar_whole undAU infoAU q6'.out rfl)) rfl ?_
                exact fin.out
            · have k0B : ((k : Int) == 0) = false := by rw [beq_eq_false_iff_ne]; omega
              have k0N : (k == 0) = false := by rw [beq_eq_false_iff_ne]; exact k0
              have k1B : ((k : Int) == 1) = false := by rw [beq_eq_false_iff_ne]; omega
              have k1N : (k == 1) = false := by rw [beq_eq_false_iff_ne]; exact k1
              have hk2 : Hid (2 ≤ k) := by show 2 ≤ k; omega
              clear k0 k1
              go_wp2_with fail
              refine C1.out.mono ?_
              rintro e w4 ⟨rfl, rl4, hb4⟩
              have B4 := btrans R.out.bel hb4
              have K4 := Lib.hid (rd_node (hd.out.below B4) (R.out.below hb4) hk2.out hkN (by have := hn.out; omega) rl4 (rg2.out.below hb4) hlsp.out)
              clear R rg2 rl4 hb4 B4 C1 SP2
              go_wp2_with fail
              refine K4.out.mono ?_
              rintro e w5 ⟨⟨rfl, R5⟩ | ⟨rfl, hr5, B5⟩, q5⟩
              · have R5' := Lib.hid R5
                have q5' := Lib.hid q5
                clear R5 q5 K4
                go_wp2
                go_roundw
                case rel => exact ⟨k + 1, rfl, rfl, by go_num, by omega, R5', q5'⟩
                case measure => simp [intOf]; omega
              · have ho2 := ho.out
                rw [hr5] at ho2
                dsimp only at ho2
                subst ho2
                clear hr5 K4 ho
                go_upto_region 18 with (fail)
                refine wp_region_list ?_
                refine wpList_plain rfl (fun K hK => ?_)
                go_simp
                refine hK _ _ ?_
                clear hK K
                refine wpList_plain rfl (fun K hK => ?_)
                go_simp
                refine hK _ _ ?_
                clear hK K
                refine list_store (l := [.int .i64 0, .slice none 0 0, .slice none 0 0]) infoAU q5 rfl rfl (au3_one _ _ _ rfl rfl) rfl 2 56 rfl rfl rfl ?_
                intro w6 q6 k6
                have fin : Hid (ParsV w (au0, k, 3) (.returned (.tuple #[.agg #[.int .i64 0, .slice none 0 0, .slice none 0 0], .int .i64 ((k : Nat) : Int), .int .i64 3])) w6) := ParsV.no (k6.below B5 (fun j hj => by rw [hj, hg2.out]; exact Nat.le_refl _))
                have q6' := Lib.hid q6
                clear q5 B5 k6 q6
                refine wpList_plain rfl (fun K hK => ?_)
                go_simp
                refine hK _ _ ?_
                clear hK K
                refine wpList_plain rfl (fun K hK => ?_)
                go_simp
                refine hK _ _ ?_
                clear hK K
                refine wpList_nil ?_
                go_wp2
                refine bodyPost_ret (v := .tuple #[.agg ([.int .i64 0, .slice none 0 0, .slice none 0 0] : List Value).toArray, .int .i64 ((k : Nat) : Int), .int .i64 3]) (results_ctt (a := 2) (b := 3) (c := 4) (by kernel_rfl) rfl rfl rfl (loadVar_whole undAU infoAU q6'.out rfl)) rfl ?_
                exact fin.out
        · have hlI : ¬ (k : Int) < (n : Int) := by omega
          have he : k = ls.length := by have := hn.out; omega
          obtain ⟨B, ia, ic, na, nc, cells, S, hr, hB⟩ := R.out.st
          have hrd : readP au0 0 ls = .inl B := by rw [hr, he, List.drop_length]; rfl
          have ho2 := ho.out
          rw [hrd] at ho2
          dsimp only at ho2
          have hrow := Lib.hid R.out.row
          have bel := Lib.hid R.out.bel
          have lsl := hn.out
          rw [← lsl] at ho2
          clear SP2 hr hrd
          by_cases h2 : n < 2
          · rw [if_pos h2] at ho2
            have h2I : (n : Int) < 2 := by omega
            subst ho2
            have q5 := rg2.out
            have B5 := bel.out
            clear S hB R rg2 bel hrow ho h2 lsl he hlt
            go_upto_region 21 with (fail)
            refine wp_region_list ?_
            refine wpList_plain rfl (fun K hK => ?_)
            go_simp
            refine hK _ _ ?_
            clear hK K
            refine wpList_plain rfl (fun K hK => ?_)
            go_simp
            refine hK _ _ ?_
            clear hK K
            refine wpList_plain rfl (fun K hK => ?_)
            go_simp
            refine hK _ _ ?_
            clear hK K
            refine list_store (l := [.int .i64 0, .slice none 0 0, .slice none 0 0]) infoAU q5 rfl rfl (au3_one _ _ _ rfl rfl) rfl 2 62 rfl rfl rfl ?_
            intro w6 q6 k6
            have fin : Hid (ParsV w (au0, n, 4) (.returned (.tuple #[.agg #[.int .i64 0, .slice none 0 0, .slice none 0 0], .int .i64 ((n : Nat) : Int), .int .i64 4])) w6) := ParsV.no (k6.below B5 (fun j hj => by rw [hj, hg2.out]; exact Nat.le_refl _))
            have q6' := Lib.hid q6
            clear q5 B5 k6 q6
            refine wpList_plain rfl (fun K hK => ?_)
            go_simp
            refine hK _ _ ?_
            clear hK K
            refine wpList_plain rfl (fun K hK => ?_)
            go_simp
            refine hK _ _ ?_
            clear hK K
            refine wpList_nil ?_
            go_wp2
            refine bodyPost_ret (v := .tuple #[.agg ([.int .i64 0, .slice none 0 0, .slice none 0 0] : List Value).toArray, .int .i64 ((n : Nat) : Int), .int .i64 4]) (results_ctt (a := 2) (b := 3) (c := 4) (by kernel_rfl) rfl rfl rfl (loadVar_whole undAU infoAU q6'.out rfl)) rfl ?_
            exact fin.out
          · rw [if_neg h2] at ho2
            have h2I : ¬ (n : Int) < 2 := by omega
            obtain ⟨okB, fewB⟩ := hB.ok (by omega)
            have CK := Lib.hid (check_any wr ia na ic nc B S.au okB)
            have c0 : wr.cell? ⟨g, 0, none⟩ = some (.int .i64 B.sets) := S.box.cell 0
            have c1 : wr.cell? ⟨g, 1, none⟩ = some (.slice ia B.init.length ic) := S.box.cell 1
            have c2 : wr.cell? ⟨g, 2, none⟩ = some (.slice na B.nodes.length nc) := S.box.cell 2
            have hln : (linesP B).length = n := by rw [lines_len, hB.len]; omega
            have S5 := Lib.hid S
            have okH := Lib.hid okB
            have fewH := Lib.hid fewB
            have hoH := Lib.hid ho2
            replace hln := Lib.hid hln
            replace lsl := Lib.hid lsl
            clear S hB R ho h2 he hlt okB fewB ho2
            go_wp2_with fail
            refine CK.out.mono ?_
            rintro e w5 ⟨rfl, hb5⟩
            have ho2 := hoH.out
            by_cases hc : chk B = 0
            · rw [if_neg (fun h => h hc)] at ho2
              have S6 := S5.out.below hb5 neRI
              have B5 := btrans bel.out hb5
              have LN := Lib.hid (lines_any w5 (hd.out.below B5) ia na ic nc B S6.au okH.out (by have := fewH.out.nl; omega) fewH.out.il fewH.out.tl)
              have row5 := Lib.hid (hrow.out.below hb5)
              have q50 := Lib.hid (rg2.out.below hb5)
              have c0 : w5.cell? ⟨g, 0, none⟩ = some (.int .i64 B.sets) := S6.box.cell 0
              have c1 : w5.cell? ⟨g, 1, none⟩ = some (.slice ia B.init.length ic) := S6.box.cell 1
              have c2 : w5.cell? ⟨g, 2, none⟩ = some (.slice na B.nodes.length nc) := S6.box.cell 2
              have ho3 := Lib.hid ho2
              have BB := Lib.hid B5
              have SS := Lib.hid S6
              rw [hc]
              clear S6 B5 hb5 CK hrow rg2 bel S5 okH fewH hoH ho2 hc
              go_wp2_with fail
              refine LN.out.mono ?_
              rintro e w6 ⟨oa, oc, rfl, ow6, hb6⟩
              rw [hln.out] at ow6 ⊢
              have S7 := SS.out.below hb6 neRI
              have row6 := Lib.hid (row5.out.below hb6)
              have q60 := Lib.hid (q50.out.below hb6)
              have B6 := Lib.hid (btrans BB.out hb6)
              have d0 : w6.cell? ⟨g, 0, none⟩ = some (.int .i64 B.sets) := S7.box.cell 0
              have d1 : w6.cell? ⟨g, 1, none⟩ = some (.slice ia B.init.length ic) := S7.box.cell 1
              have d2 : w6.cell? ⟨g, 2, none⟩ = some (.slice na B.nodes.length nc) := S7.box.cell 2
              have SA : Hid (StrsAt w6 oa (linesP B)) := StrsAt.of_own (by rw [hln.out]; exact ow6)
              have E0 : Hid (∀ j, j < 0 → ls[j]? = (linesP B)[j]?) := fun j hj => absurd hj (Nat.not_lt_zero _)
              replace S7 := Lib.hid S7
              clear LN hb6 ow6 SS BB q50 row5 c0 c1 c2
              go_wp2
              go_loop [3, 4, 82] (fun av cv iv => ∃ j : Nat, av = .int .i64 0 ∧ cv = .int .i64 0 ∧ iv = .int .i64 (j : Int) ∧ j ≤ n ∧ Hid (∀ i, i < j → ls[i]? = (linesP B)[i]?)) (fun _ _ iv => n - (intOf iv).toNat)
              case atStart => exact ⟨0, rfl, rfl, rfl, Nat.zero_le _, E0⟩
              case round =>
                obtain ⟨j, rfl, rfl, rfl, hj, E⟩ := hrel
                clear E0
                by_cases hlt : j < n
                · have hlI : (j : Int) < (n : Int) := by omega
                  have hj1 : j < (linesP B).length := by have := hln.out; omega
                  have hj2 : j < ls.length := by have := lsl.out; omega
                  obtain ⟨sb, so, es, hsc⟩ := SA.out (by omega)
                  have cj := hsc j hj1
                  have cl : w6.cell? ⟨gl, j, none⟩ = some (.string ⟨(ls[j]'hj2).toArray⟩) := (row6.out.cell j).trans (strV_at ls j hj2)
                  subst es
                  by_cases he : (linesP B)[j] = ls[j]
                  · have hE : Hid (∀ i, i < j + 1 → ls[i]? = (linesP B)[i]?) := fun i hi => by
                      by_cases e : i = j
                      · subst e
                        rw [List.getElem?_eq_getElem hj1, List.getElem?_eq_getElem hj2, he]
                      · exact E.out i (by omega)
                    rw [he] at cj
                    generalize (⟨(ls[j]'hj2).toArray⟩ : ByteArray) = q at cj cl
                    clear he hsc hj1 hj2 E ho3 S7
                    go_wp2
                    go_round
                    case rel => exact ⟨j + 1, rfl, rfl, by go_num, by omega, hE⟩
                    case measure => simp [intOf]; omega
                  · have hne : ¬ (⟨((linesP B)[j]'hj1).toArray⟩ : ByteArray) = ⟨(ls[j]'hj2).toArray⟩ := fun e => he ((str_eq _ _).1 e)
                    have hqB := str_no hne
                    have hdf : diffP 0 ls (linesP B) = some (0 + j) := diff_hit ls (linesP B) 0 j E.out hj2 hj1 (fun e => he (by
                      rw [List.getElem?_eq_getElem hj1, List.getElem?_eq_getElem hj2] at e
                      injection e with e
                      exact e.symm))
                    rw [Nat.zero_add] at hdf
                    have ho4 := ho3.out
                    rw [hdf] at ho4
                    dsimp only at ho4
                    subst ho4
                    have q5 := q60.out
                    have B5 := B6.out
                    have hqP : ¬ (⟨((linesP B)[j]'hj1).toArray⟩ : ByteArray).toList = (⟨(ls[j]'hj2).toArray⟩ : ByteArray).toList := fun e => by rw [e, beq_self_eq_true] at hqB; cases hqB
                    generalize (⟨(ls[j]'hj2).toArray⟩ : ByteArray) = q at cl hqB hqP
                    generalize (⟨((linesP B)[j]'hj1).toArray⟩ : ByteArray) = q' at cj hqB hqP
                    clear he hne hsc hj1 hj2 E ho3 S7 hdf q60 B6 SA d0 d1 d2 row6
                    go_upto_region 29 with (fail)
                    refine wp_region_list ?_
                    refine wpList_plain rfl (fun K hK => ?_)
                    go_simp
                    refine hK _ _ ?_
                    clear hK K
                    refine wpList_plain rfl (fun K hK => ?_)
                    go_simp
                    refine hK _ _ ?_
                    clear hK K
                    refine list_store (l := [.int .i64 0, .slice none 0 0, .slice none 0 0]) infoAU q5 rfl rfl (au3_one _ _ _ rfl rfl) rfl 2 93 rfl rfl rfl ?_
                    intro w6 q6 k6
                    have fin : Hid (ParsV w (au0, j, 13) (.returned (.tuple #[.agg #[.int .i64 0, .slice none 0 0, .slice none 0 0], .int .i64 ((j : Nat) : Int), .int .i64 13])) w6) := ParsV.no (k6.below B5 (fun j hj => by rw [hj, hg2.out]; exact Nat.le_refl _))
                    have q6' := Lib.hid q6
                    clear q5 B5 k6 q6
                    refine wpList_plain rfl (fun K hK => ?_)
                    go_simp
                    refine hK _ _ ?_
                    clear hK K
                    refine wpList_plain rfl (fun K hK => ?_)
                    go_simp
                    refine hK _ _ ?_
                    clear hK K
                    refine wpList_nil ?_
                    go_wp2
                    refine bodyPost_ret (v := .tuple #[.agg ([.int .i64 0, .slice none 0 0, .slice none 0 0] : List Value).toArray, .int .i64 ((j : Nat) : Int), .int .i64 13]) (results_ctt (a := 2) (b := 3) (c := 4) (by kernel_rfl) rfl rfl rfl (loadVar_whole undAU infoAU q6'.out rfl)) rfl ?_
                    exact fin.out
                · have hlI : ¬ (j : Int) < (n : Int) := by omega
                  have hjn : j = n := by omega
                  subst hjn
                  have hsame : ls = linesP B := by
                    refine List.ext_getElem? fun i => ?_
                    by_cases hi : i < j
                    · exact E.out i hi
                    · rw [List.getElem?_eq_none (by have := lsl.out; omega), List.getElem?_eq_none (by have := hln.out; omega)]
                  have ho4 := ho3.out
                  rw [hsame, diff_self] at ho4
                  dsimp only at ho4
                  subst ho4
                  have q5 := q60.out
                  have B5 := B6.out
                  clear hsame ho3 E SA row6 q60 B6
                  go_upto_region 31 with (fail)
                  refine wp_region_list ?_
                  refine wpList_plain rfl (fun K hK => ?_)
                  go_simp
                  refine hK _ _ ?_
                  clear hK K
                  refine wpList_plain rfl (fun K hK => ?_)
                  go_simp
                  refine hK _ _ ?_
                  clear hK K
                  refine wpList_plain rfl (fun K hK => ?_)
                  go_simp
                  refine hK _ _ ?_
                  clear hK K
                  refine wpList_plain rfl (fun K hK => ?_)
                  go_simp
                  refine hK _ _ ?_
                  clear hK K
                  refine list_store (l := [.int .i64 B.sets, .slice ia B.init.length ic, .slice na B.nodes.length nc]) infoAU q5 rfl rfl (au3_one _ _ _ rfl rfl) rfl 2 99 rfl rfl rfl ?_
                  intro w7 q7 k7
                  have S8 := S7.out.other k7 q5 (by decide) (by decide) (by decide) (by decide)
                  have fin : Hid (ParsV w (B, 0, 0) (.returned (.tuple #[.agg #[.int .i64 B.sets, .slice ia B.init.length ic, .slice na B.nodes.length nc], .int .i64 ((0 : Nat) : Int), .int .i64 0])) w7) := ⟨ia, ic, na, nc, rfl, S8.au, k7.below B5 (fun j hj => by rw [hj, hg2.out]; exact Nat.le_refl _)⟩
                  have q7' := Lib.hid q7
                  clear q5 B5 k7 q7 S8 S7
                  refine wpList_plain rfl (fun K hK => ?_)
                  go_simp
                  refine hK _ _ ?_
                  clear hK K
                  refine wpList_plain rfl (fun K hK => ?_)
                  go_simp
                  refine hK _ _ ?_
                  clear hK K
                  refine wpList_nil ?_
                  go_wp2
                  refine bodyPost_ret (v := .tuple #[.agg ([.int .i64 B.sets, .slice ia B.init.length ic, .slice na B.nodes.length nc] : List Value).toArray, .int .i64 ((0 : Nat) : Int), .int .i64 0]) (results_ctt (a := 2) (b := 3) (c := 4) (by kernel_rfl) rfl rfl rfl (loadVar_whole undAU infoAU q7'.out rfl)) rfl ?_
                  exact fin.out
            · rw [if_pos hc] at ho2
              have hcB : (chk B != 0) = true := by rw [bne_iff_ne]; exact hc
              have q5 := rg2.out.below hb5
              have B5 := btrans bel.out hb5
              obtain ⟨c, hcc⟩ : ∃ c, c = chk B := ⟨_, rfl⟩
              rw [← hcc] at ho2 hcB ⊢
              subst ho2
              clear rg2 bel hrow CK c0 c1 c2 S5 okH fewH hoH hb5 hc hcc
              go_upto_region 24 with (fail)
              refine wp_region_list ?_
              refine wpList_plain rfl (fun K hK => ?_)
              go_simp
              refine hK _ _ ?_
              clear hK K
              refine wpList_plain rfl (fun K hK => ?_)
              go_simp
              refine hK _ _ ?_
              clear hK K
              refine wpList_plain rfl (fun K hK => ?_)
              go_simp
              refine hK _ _ ?_
              clear hK K
              refine wpList_plain rfl (fun K hK => ?_)
              go_simp
              refine hK _ _ ?_
              clear hK K
              refine list_store (l := [.int .i64 0, .slice none 0 0, .slice none 0 0]) infoAU q5 rfl rfl (au3_one _ _ _ rfl rfl) rfl 2 72 rfl rfl rfl ?_
              intro w6 q6 k6
              have fin : Hid (ParsV w (au0, n, c) (.returned (.tuple #[.agg #[.int .i64 0, .slice none 0 0, .slice none 0 0], .int .i64 ((n : Nat) : Int), .int .i64 c])) w6) := ParsV.no (k6.below B5 (fun j hj => by rw [hj, hg2.out]; exact Nat.le_refl _))
              have q6' := Lib.hid q6
              clear q5 B5 k6 q6
              refine wpList_plain rfl (fun K hK => ?_)
              go_simp
              refine hK _ _ ?_
              clear hK K
              refine wpList_plain rfl (fun K hK => ?_)
              go_simp
              refine hK _ _ ?_
              clear hK K
              refine wpList_nil ?_
              go_wp2
              refine bodyPost_ret (v := .tuple #[.agg ([.int .i64 0, .slice none 0 0, .slice none 0 0] : List Value).toArray, .int .i64 ((n : Nat) : Int), .int .i64 c]) (results_ctt (a := 2) (b := 3) (c := 4) (by kernel_rfl) rfl rfl rfl (loadVar_whole undAU infoAU q6'.out rfl)) rfl ?_
              exact fin.out
    · rw [if_pos hlast] at ho
      rw [if_neg hlast, decide_eq_false hlast] at CS
      have CN := count_d w1 s 10
      rw [← hL] at CN
      generalize (cutP 10 L).length - 1 = cn at CN ho
      have hsd : (⟨L.toArray⟩ : ByteArray) = s := (str_eq _ _).2 hL
      rw [hsd] at CS
      subst ho
      replace CS := Lib.hid CS
      replace CN := Lib.hid CN
      have q5 := r1
      have B5 := B1
      replace hw1 := Lib.hid hw1
      replace hg2 := Lib.hid hg2
      clear hlast h20 hLn hL hs hsd hd r1 B1
      go_enter Tryd.func12, Tryd.ntmps12
      go_upto_region 3 with (fail)
      rw [← hw1.out, ← hg2.out]
      go_wp2_with fail
      refine CS.out.mono ?_
      rintro e w' ⟨rfl, rfl⟩
      clear CS
      go_upto_region 5 with (fail)
      refine wp_region_list ?_
      refine wpList_plain rfl (fun K hK => ?_)
      go_simp
      refine hK _ _ ?_
      clear hK K
      refine wpList_plain rfl (fun K hK => ?_)
      go_simp
      refine hK _ _ ?_
      clear hK K
      refine wpList_plain rfl (fun K hK => ?_)
      go_simp
      refine CN.out.mono ?_
      rintro e w' ⟨rfl, rfl⟩
      refine hK _ _ ?_
      clear hK K CN
      refine list_store (l := [.int .i64 0, .slice none 0 0, .slice none 0 0]) infoAU q5 rfl rfl (au3_one _ _ _ rfl rfl) rfl 2 26 rfl rfl rfl ?_
      intro w6 q6 k6
      have fin : Hid (ParsV w (au0, cn, 4) (.returned (.tuple #[.agg #[.int .i64 0, .slice none 0 0, .slice none 0 0], .int .i64 ((cn : Nat) : Int), .int .i64 4])) w6) := ParsV.no (k6.below B5 (fun j hj => by rw [hj, hg2.out]; exact Nat.le_refl _))
      have q6' := Lib.hid q6
      clear q5 B5 k6 q6
      refine wpList_plain rfl (fun K hK => ?_)
      go_simp
      refine hK _ _ ?_
      clear hK K
      refine wpList_plain rfl (fun K hK => ?_)
      go_simp
      refine hK _ _ ?_
      clear hK K
      refine wpList_nil ?_
      go_wp2
      refine bodyPost_ret (v := .tuple #[.agg ([.int .i64 0, .slice none 0 0, .slice none 0 0] : List Value).toArray, .int .i64 ((cn : Nat) : Int), .int .i64 4]) (results_ctt (a := 2) (b := 3) (c := 4) (by kernel_rfl) rfl rfl rfl (loadVar_whole undAU infoAU q6'.out rfl)) rfl ?_
      exact fin.out
end Go.Proofs.YtjacphcnanopjaaDoor
