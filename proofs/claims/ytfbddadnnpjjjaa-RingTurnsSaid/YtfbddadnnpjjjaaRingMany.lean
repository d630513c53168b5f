/- Several queues of numbers side by side, each in blocks of its own. Conditions: few numbers. -/
import Derived.Test.YtfbddadnnpjjjaaRingWorks
namespace Go.Proofs.Ytfbddadnnpjjjaa
open Go.RowKit

structure QR where
  q : Nat
  a : Option Addr
  c : Nat
  xs : List Int
def QR.blk (r : QR) (j : Nat) : Prop := j = r.q ∨ OI r.a r.xs.length r.c = some j
def Apart (r s : QR) : Prop := ∀ j, r.blk j → ¬ s.blk j
theorem Apart.symm {r s : QR} (h : Apart r s) : Apart s r := fun j h1 h2 => h j h2 h1
structure Many (w W : World) (m : Int) (l : List QR) : Prop where
  at_ : ∀ (i : Nat) (r : QR), l[i]? = some r → QAt w W.heap.size r.q m r.a r.c r.xs
  below : Below W.heap.size W w
  apart : ∀ (i j : Nat) (r s : QR), i ≠ j → l[i]? = some r → l[j]? = some s → Apart r s
section
variable {w w' W : World} {m : Int} {l : List QR} {r r' s : QR} {i : Nat}
theorem QAt.blk_lt (h : QAt w W.heap.size r.q m r.a r.c r.xs) {j : Nat} (hj : r.blk j) : W.heap.size ≤ j ∧ j < w.heap.size := by
  rcases hj with rfl | hj
  · exact ⟨h.hq, h.box.lt⟩
  · exact h.own.lt2 hj
theorem QAt.turned (h : QAt w W.heap.size s.q m s.a s.c s.xs) (ht : Turns w w' r.q (OI r.a r.xs.length r.c) (OI r'.a r'.xs.length r'.c)) (hd : Apart s r) : QAt w' W.heap.size s.q m s.a s.c s.xs :=
  ⟨h.box.keeps ht.1 (hd _ (.inl rfl)), h.own.keeps ht.1 (fun j hj => hd j (.inr hj)), h.ne, h.hq⟩
theorem Many.turn (h : Many w W m l) (hr : l[i]? = some r) (hq : QAt w' W.heap.size r'.q m r'.a r'.c r'.xs) (e : r'.q = r.q) (ht : Turns w w' r.q (OI r.a r.xs.length r.c) (OI r'.a r'.xs.length r'.c)) : Many w' W m (l.set i r') := by
  have hi : i < l.length := (List.getElem?_eq_some_iff.1 hr).1
  have other : ∀ j s, j ≠ i → (l.set i r')[j]? = some s → l[j]? = some s := fun j s hj hs => by
    rwa [List.getElem?_set_ne (fun e => hj e.symm)] at hs
  have same : ∀ s, (l.set i r')[i]? = some s → s = r' := fun s hs => by
    rw [List.getElem?_set_self hi] at hs
    exact (Option.some.inj hs).symm
  have new : ∀ j s, j ≠ i → l[j]? = some s → Apart r' s := fun j s hj hs b hb hb' => by
    have h1 := h.at_ j s hs
    have hlt := h1.blk_lt hb'
    rcases hb with rfl | hb
    · exact h.apart i j r s (fun e => hj e.symm) hr hs _ (.inl e) hb'
    · rcases ht.2 b hb with h2 | h2
      · exact h.apart i j r s (fun e => hj e.symm) hr hs b (.inr h2) hb'
      · omega
  refine ⟨fun j s hs => ?_, ht.below (h.at_ i r hr) h.below (Nat.le_refl _), fun j k s t hjk hs ht' => ?_⟩
  · by_cases hj : j = i
    · subst hj
      rw [same s hs]
      exact hq
    · have hs' := other j s hj hs
      exact (h.at_ j s hs').turned ht (h.apart j i s r hj hs' hr)
  · by_cases hj : j = i
    · subst hj
      rw [same s hs]
      exact new k t (fun e => hjk e.symm) (other k t (fun e => hjk e.symm) ht')
    · by_cases hk : k = i
      · subst hk
        rw [same t ht']
        exact (new j s hj (other j s hj hs)).symm
      · exact h.apart j k s t hjk (other j s hj hs) (other k t hk ht')
theorem Many.later (h : Many w W m l) (hb : Below w.heap.size w w') : Many w' W m l :=
  ⟨fun i r hr => (h.at_ i r hr).below hb, btrans h.below hb, h.apart⟩
theorem Many.quiet (h : Many w W m l) (hb : Quiet w w') : Many w' W m l := h.later (hb.below _)
theorem QAt.base {B B' q c : Nat} {a : Option Addr} {xs : List Int} (h : QAt w B q m a c xs) (hB : B' ≤ B) : QAt w B' q m a c xs := ⟨h.box, own_base h.own hB, h.ne, Nat.le_trans hB h.hq⟩
theorem Many.add (h : Many w W m l) (hb : Below w.heap.size w w') (hq : QAt w' w.heap.size r.q m r.a r.c r.xs) : Many w' W m (l ++ [r]) := by
  have hl := h.later hb
  have new : ∀ j s, l[j]? = some s → Apart r s := fun j s hs b hb1 hb2 => by
    have h1 := ((h.at_ j s hs).blk_lt hb2).2
    have h2 : w.heap.size ≤ b := by
      rcases hb1 with rfl | hb1
      · exact hq.hq
      · exact (hq.own.lt2 hb1).1
    omega
  have part : ∀ j s, (l ++ [r])[j]? = some s → l[j]? = some s ∨ (j = l.length ∧ s = r) := fun j s hs => by
    rcases Nat.lt_trichotomy j l.length with h1 | h1 | h1
    · rw [List.getElem?_append_left h1] at hs
      exact .inl hs
    · subst h1
      simp at hs
      exact .inr ⟨rfl, hs.symm⟩
    · rw [List.getElem?_append_right (by omega), List.getElem?_eq_none (by simp; omega)] at hs
      cases hs
  refine ⟨fun j s hs => ?_, hl.below, fun j k s t hjk hs ht => ?_⟩
  · rcases part j s hs with h1 | ⟨_, rfl⟩
    · exact hl.at_ j s h1
    · exact hq.base h.below.size
  · rcases part j s hs with h1 | ⟨h1, rfl⟩ <;> rcases part k t ht with h2 | ⟨h2, rfl⟩
    · exact h.apart j k s t hjk h1 h2
    · exact (new j s h1).symm
    · exact new k t h2
    · omega
theorem many_put (h : Many w W m l) (hr : l[i]? = some r) (hm : (r.xs.length : Int) < m) (hx : r.xs.length ≤ 70000) (x : Int) (ys : List Int) (e : r.xs ++ [x] = ys) :
    Calls Try.prog 11 #[.pointer (some ⟨r.q, 0, none⟩), .int .i64 x] w fun e w' => ∃ a' c', e = .returned (.bool true) ∧ Many w' W m (l.set i ⟨r.q, a', c', ys⟩) := by
  subst e
  exact (put_t w _ _ _ _ _ _ (h.at_ i r hr) hm hx x).mono fun e w' ⟨a', c', h1, h2, h3⟩ => ⟨a', c', h1, h.turn hr h2 rfl (by simpa using h3)⟩
theorem many_push (h : Many w W m l) (hr : l[i]? = some r) (hm : (r.xs.length : Int) < m) (hx : r.xs.length ≤ 70000) (x : Int) (ys : List Int) (e : x :: r.xs = ys) :
    Calls Try.prog 13 #[.pointer (some ⟨r.q, 0, none⟩), .int .i64 x] w fun e w' => ∃ a' c', e = .returned (.bool true) ∧ Many w' W m (l.set i ⟨r.q, a', c', ys⟩) := by
  subst e
  exact (push_yes w _ _ _ _ _ _ (h.at_ i r hr) hm hx x).mono fun e w' ⟨a', c', h1, h2, h3⟩ => ⟨a', c', h1, h.turn hr h2 rfl (by simpa using h3)⟩
theorem many_take (h : Many w W m l) (hr : l[i]? = some r) (hk : 0 < r.xs.length) (hx : r.xs.length ≤ 70000) (x : Int) (ys : List Int) (e1 : r.xs.getD 0 0 = x) (e2 : r.xs.eraseIdx 0 = ys) :
    Calls Try.prog 15 #[.pointer (some ⟨r.q, 0, none⟩)] w fun e w' => ∃ a' c', e = .returned (.tuple #[.int .i64 x, .bool true]) ∧ Many w' W m (l.set i ⟨r.q, a', c', ys⟩) := by
  subst e1 e2
  exact (take_yes w _ _ _ _ _ _ (h.at_ i r hr) hk hx).mono fun e w' ⟨a', c', h1, h2, h3⟩ => ⟨a', c', h1, h.turn hr h2 rfl (by rw [show (r.xs.eraseIdx 0).length = r.xs.length - 1 from List.length_eraseIdx_of_lt hk]; exact h3)⟩
theorem many_last (h : Many w W m l) (hr : l[i]? = some r) (hk : 0 < r.xs.length) (hx : r.xs.length ≤ 70000) (x : Int) (ys : List Int) (e1 : r.xs.getD (r.xs.length - 1) 0 = x) (e2 : r.xs.eraseIdx (r.xs.length - 1) = ys) :
    Calls Try.prog 17 #[.pointer (some ⟨r.q, 0, none⟩)] w fun e w' => ∃ a' c', e = .returned (.tuple #[.int .i64 x, .bool true]) ∧ Many w' W m (l.set i ⟨r.q, a', c', ys⟩) := by
  subst e1 e2
  exact (last_yes w _ _ _ _ _ _ (h.at_ i r hr) hk hx).mono fun e w' ⟨a', c', h1, h2, h3⟩ => ⟨a', c', h1, h.turn hr h2 rfl (by rw [show (r.xs.eraseIdx (r.xs.length - 1)).length = r.xs.length - 1 from List.length_eraseIdx_of_lt (by omega)]; exact h3)⟩
end
end Go.Proofs.Ytfbddadnnpjjjaa
