/- Who is reached from whom by pairs; who is on a cycle with whom: plain facts. No condition. -/
import Derived.WalkKit
namespace Go.Proofs.Ytakgehcfomfmdaa
open Go.RowKit

/-- By one step or more. -/
inductive Rt (E : List (Int × Int)) : Int → Int → Prop
  | one {a b : Int} (h : (a, b) ∈ E) : Rt E a b
  | more {a b c : Int} (h : Rt E a b) (h' : (b, c) ∈ E) : Rt E a c
theorem Rt.trans {E : List (Int × Int)} {a b c : Int} (h : Rt E a b) (h' : Rt E b c) : Rt E a c := by
  induction h' with
  | one h1 => exact .more h h1
  | more _ h2 ih => exact .more ih h2
theorem Rt.head {E : List (Int × Int)} {a b : Int} (h : Rt E a b) : ∃ c, (a, c) ∈ E ∧ (c = b ∨ Rt E c b) := by
  induction h with
  | one h1 => exact ⟨_, h1, .inl rfl⟩
  | more _ h2 ih =>
    obtain ⟨c, h3, h4 | h4⟩ := ih
    · subst h4; exact ⟨_, h3, .inr (.one h2)⟩
    · exact ⟨c, h3, .inr (.more h4 h2)⟩
theorem Rt.mono {E F : List (Int × Int)} (hs : ∀ p ∈ E, p ∈ F) {a b : Int} (h : Rt E a b) : Rt F a b := by
  induction h with
  | one h1 => exact .one (hs _ h1)
  | more _ h2 ih => exact .more ih (hs _ h2)
/-- Whatever holds of the next ones, and is handed on, holds of all that are reached. -/
theorem Rt.closed {E : List (Int × Int)} {a b : Int} (h : Rt E a b) (P : Int → Prop) (h0 : ∀ c, (a, c) ∈ E → P c) (h1 : ∀ c d, P c → (c, d) ∈ E → P d) : P b := by
  induction h with
  | one h2 => exact h0 _ h2
  | more _ h2 ih => exact h1 _ _ ih h2
def rev (E : List (Int × Int)) : List (Int × Int) := E.map fun p => (p.2, p.1)
theorem mem_rev {E : List (Int × Int)} {a b : Int} : (a, b) ∈ rev E ↔ (b, a) ∈ E := by
  simp only [rev, List.mem_map, Prod.mk.injEq]
  constructor
  · rintro ⟨⟨x, y⟩, h, rfl, rfl⟩; exact h
  · intro h; exact ⟨_, h, rfl, rfl⟩
theorem Rt.rev_of {E : List (Int × Int)} {a b : Int} (h : Rt E a b) : Rt (rev E) b a := by
  induction h with
  | one h1 => exact .one (mem_rev.2 h1)
  | more _ h2 ih => exact (Rt.one (mem_rev.2 h2)).trans ih
theorem rev_rev (E : List (Int × Int)) : rev (rev E) = E := by
  rw [rev, rev, List.map_map]
  exact List.map_id' E
theorem rt_rev {E : List (Int × Int)} {a b : Int} : Rt (rev E) a b ↔ Rt E b a := ⟨fun h => by have := h.rev_of; rwa [rev_rev] at this, fun h => h.rev_of⟩
/-- The next ones, as the program lists them. -/
def nxt (E : List (Int × Int)) (n : Int) : List Int := (E.filter fun p => p.1 == n).map (·.2)
theorem mem_nxt {E : List (Int × Int)} {n z : Int} : z ∈ nxt E n ↔ (n, z) ∈ E := by
  simp only [nxt, List.mem_map, List.mem_filter, beq_iff_eq]
  constructor
  · rintro ⟨⟨x, y⟩, ⟨h, rfl⟩, rfl⟩; exact h
  · intro h; exact ⟨_, ⟨h, rfl⟩, rfl⟩
theorem nodup_len : ∀ (l m : List Int), l.Nodup → (∀ x ∈ l, x ∈ m) → l.length ≤ m.length
  | [], _, _, _ => Nat.zero_le _
  | a :: l, m, hd, hs => by
    have ha := hs a (List.mem_cons_self ..)
    have h1 := nodup_len l (m.erase a) (List.nodup_cons.1 hd).2 (fun x hx => (List.mem_erase_of_ne (fun e => (List.nodup_cons.1 hd).1 (by rw [← e]; exact hx))).2 (hs x (List.mem_cons_of_mem _ hx)))
    have h2 := List.length_erase_of_mem ha
    have h3 := List.length_pos_of_mem ha
    simp only [List.length_cons]
    omega

/-- How far a search has come: ahead of a step. -/
structure Sr (E : List (Int × Int)) (s : Int) (acc todo : List Int) : Prop where
  nd : acc.Nodup
  reach : ∀ x ∈ acc, Rt E s x
  tod : ∀ x ∈ todo, x = s ∨ x ∈ acc
  done : ∀ y, (y = s ∨ y ∈ acc) → y ∉ todo → ∀ z, (y, z) ∈ E → z ∈ acc
/-- In the midst of one: of n's next ones those in p have been looked at. -/
structure Sm (E : List (Int × Int)) (s n : Int) (p acc todo : List Int) : Prop where
  nd : acc.Nodup
  reach : ∀ x ∈ acc, Rt E s x
  tod : ∀ x ∈ todo, x = s ∨ x ∈ acc
  done : ∀ y, (y = s ∨ y ∈ acc) → y ∉ todo → y ≠ n → ∀ z, (y, z) ∈ E → z ∈ acc
  these : ∀ z ∈ p, z ∈ acc
  src : n = s ∨ n ∈ acc
theorem Sr.start (E : List (Int × Int)) (s : Int) : Sr E s [] [s] := ⟨List.nodup_nil, fun x hx => (by cases hx), fun x hx => .inl (by simpa using hx), fun y hy hn => by simp at hy; subst hy; simp at hn⟩
theorem Sr.pop {E : List (Int × Int)} {s n : Int} {acc todo : List Int} (h : Sr E s acc (todo ++ [n])) : Sm E s n [] acc todo :=
  ⟨h.nd, h.reach, fun x hx => h.tod x (List.mem_append_left _ hx), fun y hy hn hne z hz => h.done y hy (by simp [hn, hne]) z hz, fun z hz => (by cases hz), h.tod n (by simp)⟩
theorem Sm.old {E : List (Int × Int)} {s n x : Int} {p acc todo : List Int} (h : Sm E s n p acc todo) (hx : x ∈ acc) : Sm E s n (p ++ [x]) acc todo :=
  ⟨h.nd, h.reach, h.tod, h.done, fun z hz => (List.mem_append.1 hz).elim (h.these z) (fun e => by rw [List.mem_singleton.1 e]; exact hx), h.src⟩
theorem Sm.new {E : List (Int × Int)} {s n x : Int} {p acc todo : List Int} (h : Sm E s n p acc todo) (hx : x ∉ acc) (hE : (n, x) ∈ E) : Sm E s n (p ++ [x]) (acc ++ [x]) (todo ++ [x]) := by
  have hr : Rt E s x := by
    rcases h.src with e | e
    · subst e; exact .one hE
    · exact .more (h.reach n e) hE
  refine ⟨List.nodup_append.2 ⟨h.nd, by simp, fun a ha b hb e => hx (by rw [List.mem_singleton.1 hb] at e; exact e ▸ ha)⟩, fun y hy => (List.mem_append.1 hy).elim (h.reach y) (fun e => by rw [List.mem_singleton.1 e]; exact hr), fun y hy => ?_, fun y hy hn hne z hz => ?_, fun z hz => ?_, h.src.imp id (fun e => List.mem_append_left _ e)⟩
  · rcases List.mem_append.1 hy with e | e
    · exact (h.tod y e).imp id (fun e => List.mem_append_left _ e)
    · exact .inr (List.mem_append_right _ e)
  · have hnx : y ≠ x := fun e => hn (by simp [e])
    refine List.mem_append_left _ (h.done y (hy.imp id (fun e => ?_)) (fun e => hn (List.mem_append_left _ e)) hne z hz)
    rcases List.mem_append.1 e with e | e
    · exact e
    · exact absurd (List.mem_singleton.1 e) hnx
  · rcases List.mem_append.1 hz with e | e
    · exact List.mem_append_left _ (h.these z e)
    · exact List.mem_append_right _ e
theorem Sm.all {E : List (Int × Int)} {s n : Int} {acc todo : List Int} (h : Sm E s n (nxt E n) acc todo) : Sr E s acc todo :=
  ⟨h.nd, h.reach, h.tod, fun y hy hn z hz => by
    by_cases e : y = n
    · subst e; exact h.these z (mem_nxt.2 hz)
    · exact h.done y hy hn e z hz⟩
theorem Sr.end_ {E : List (Int × Int)} {s : Int} {acc : List Int} (h : Sr E s acc []) : acc.Nodup ∧ ∀ x, x ∈ acc ↔ Rt E s x :=
  ⟨h.nd, fun x => ⟨h.reach x, fun hr => hr.closed (fun z => z ∈ acc) (fun c hc => h.done s (.inl rfl) (by simp) c hc) (fun c d hc hd => h.done c (.inr hc) (by simp) d hd)⟩⟩
theorem rt_target {E : List (Int × Int)} {a b : Int} (h : Rt E a b) : b ∈ E.map (·.2) := by
  cases h with
  | one h => exact List.mem_map.2 ⟨_, h, rfl⟩
  | more _ h => exact List.mem_map.2 ⟨_, h, rfl⟩
theorem rt_source {E : List (Int × Int)} {a b : Int} (h : Rt E a b) : a ∈ E.map (·.1) := by
  obtain ⟨c, hc, _⟩ := h.head
  exact List.mem_map.2 ⟨_, hc, rfl⟩
theorem acc_len {E : List (Int × Int)} {s : Int} {acc : List Int} (hn : acc.Nodup) (hr : ∀ x ∈ acc, Rt E s x) : acc.length ≤ E.length := by
  have := nodup_len acc (E.map (·.2)) hn (fun x hx => rt_target (hr x hx))
  simpa using this

/-- Those that are on a cycle with one, rising. -/
structure OnL (E : List (Int × Int)) (s : Int) (l : List Int) : Prop where
  rise : l.Pairwise (· < ·)
  mem : ∀ x, x ∈ l ↔ Rt E s x ∧ Rt E x s
theorem rise_ext : ∀ {l m : List Int}, l.Pairwise (· < ·) → m.Pairwise (· < ·) → (∀ x, x ∈ l ↔ x ∈ m) → l = m
  | [], [], _, _, _ => rfl
  | [], b :: m, _, _, h => by have := (h b).2 (List.mem_cons_self ..); cases this
  | a :: l, [], _, _, h => by have := (h a).1 (List.mem_cons_self ..); cases this
  | a :: l, b :: m, hl, hm, h => by
    obtain ⟨h1, h2⟩ := List.pairwise_cons.1 hl
    obtain ⟨h3, h4⟩ := List.pairwise_cons.1 hm
    have hab : a = b := by
      have ha := (h a).1 (List.mem_cons_self ..)
      have hb := (h b).2 (List.mem_cons_self ..)
      rcases List.mem_cons.1 ha with e | e
      · exact e
      · rcases List.mem_cons.1 hb with e' | e'
        · exact e'.symm
        · have := h1 b e'; have := h3 a e; omega
    subst hab
    rw [rise_ext h2 h4 (fun x => ⟨fun hx => by
      rcases List.mem_cons.1 ((h x).1 (List.mem_cons_of_mem _ hx)) with e | e
      · have := h1 x hx; omega
      · exact e, fun hx => by
      rcases List.mem_cons.1 ((h x).2 (List.mem_cons_of_mem _ hx)) with e | e
      · have := h3 x hx; omega
      · exact e⟩)]
theorem OnL.uniq {E : List (Int × Int)} {s : Int} {l m : List Int} (h : OnL E s l) (k : OnL E s m) : l = m := rise_ext h.rise k.rise (fun x => (h.mem x).trans (k.mem x).symm)
/-- Sorted, and none twice: rising. -/
theorem rise_sorted {l : List Int} (hd : l.Nodup) : (l.mergeSort fun x y => decide (x ≤ y)).Pairwise (· < ·) ∧ ∀ x, x ∈ (l.mergeSort fun x y => decide (x ≤ y)) ↔ x ∈ l := by
  have hp := List.mergeSort_perm l (fun x y => decide (x ≤ y))
  have hs := List.pairwise_mergeSort (le := fun x y : Int => decide (x ≤ y)) (by intro a b c h1 h2; simp at *; omega) (by intro a b; simp; omega) l
  refine ⟨?_, fun x => hp.mem_iff⟩
  have hn : (l.mergeSort fun x y => decide (x ≤ y)).Nodup := hp.nodup_iff.2 hd
  have h2 := hs.and hn
  exact h2.imp (fun {a b} ⟨h, hne⟩ => by simp at h; omega)
end Go.Proofs.Ytakgehcfomfmdaa
