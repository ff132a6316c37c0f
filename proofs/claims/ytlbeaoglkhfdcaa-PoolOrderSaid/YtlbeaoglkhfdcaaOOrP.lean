/- No page is written ahead of the log: in plain words. No condition. -/
import Derived.Test.YtlbeaoglkhfdcaaOPres
namespace Go.Proofs.Ytlbeaoglkhfdcaa
/-- The log is durable so far. -/
def durOf : Int → St → Int
  | d, [] => d
  | d, p :: r => durOf (if p.1 = 108 then max d p.2.1 else d) r
/-- Each page is written behind the log. -/
def behind (made : ByteArray → Int) : Int → St → Prop
  | _, [] => True
  | d, p :: r => (p.1 = 119 → made p.2.2 ≠ 0 ∧ made p.2.2 ≤ d) ∧ behind made (if p.1 = 108 then max d p.2.1 else d) r
theorem behind_append {made : ByteArray → Int} : ∀ {a b : St} {d : Int}, behind made d a → behind made (durOf d a) b → behind made d (a ++ b)
  | [], b, d, _, h => h
  | p :: r, b, d, h1, h2 => ⟨h1.1, behind_append (a := r) h1.2 h2⟩
theorem durOf_append : ∀ {a b : St} {d : Int}, durOf d (a ++ b) = durOf (durOf d a) b
  | [], b, d => rfl
  | p :: r, b, d => durOf_append (a := r)
theorem behind_more {made made' : ByteArray → Int} (h : ∀ x, made x ≠ 0 → made' x = made x) : ∀ {a : St} {d : Int}, behind made d a → behind made' d a
  | [], _, _ => trivial
  | p :: r, d, h1 => ⟨fun e => by have := h1.1 e; rw [h _ this.1]; exact this, behind_more h h1.2⟩
theorem behind_get {made : ByteArray → Int} : ∀ {a : St} {d : Int}, behind made d a → ∀ k (hk : k < a.length), (a[k]).1 = 119 → made (a[k]).2.2 ≠ 0 ∧ made (a[k]).2.2 ≤ durOf d (a.take k)
  | [], _, _, k, hk, _ => by simp at hk
  | p :: r, d, h, 0, _, e => h.1 e
  | p :: r, d, h, k + 1, hk, e => behind_get (a := r) h.2 k (by simpa using hk) (by simpa using e)
theorem durOf_take {a : St} {d : Int} (k : Nat) (hk : k < a.length) : durOf d (a.take (k + 1)) = if (a[k]).1 = 108 then max (durOf d (a.take k)) (a[k]).2.1 else durOf d (a.take k) := by
  rw [List.take_succ_eq_append_getElem hk, durOf_append]
  rfl
abbrev noPages : List ByteArray := List.replicate 40 ByteArray.empty
abbrev dvOr := dvRec noPages
/-- What is written down beside what made it so. -/
structure Ov (made : ByteArray → Int) (t : St) (s : PS) : Prop where
  steps : behind made 0 t
  frs : ∀ x ∈ s.ks, (s.fr x).d = true → made (s.fr x).b = (s.fr x).last ∧ made (s.fr x).b ≠ 0
theorem ov_pres (made : ByteArray → Int) : Pres dvOr (Ov made) where
  flush t s n h hn hd := by
    obtain ⟨k1, k2⟩ := h.frs n hn hd
    refine ⟨rfl, rfl, ⟨?_, fun x hx hdx => ?_⟩⟩
    · show behind made 0 (t ++ [(108, (s.fr n).last, ⟨#[]⟩)] ++ [(119, n, (s.fr n).b)])
      rw [List.append_assoc]
      refine behind_append h.steps ⟨fun e => absurd (show (108 : UInt8) = 119 from e) (by decide), fun _ => ⟨k2, ?_⟩, trivial⟩
      simp only [if_true]
      rw [k1]
      exact Int.le_max_right _ _
    · by_cases e : x = n
      · subst e; simp [PS.upd] at hdx
      · simp [PS.upd, e] at hdx ⊢
        exact h.frs x hx hdx
  del t s n h hn hd := ⟨h.steps, fun x hx hdx => h.frs x (List.mem_filter.1 hx).1 hdx⟩
section
variable {made : ByteArray → Int} {t : St} {s : PS} {cap : Nat}
theorem Ov.new : Ov (fun _ => 0) [] PS.new := ⟨trivial, fun _ h => by cases h⟩
theorem Ov.acc (h : Ov made t s) (n : Int) : Ov made t (s.acc n) := ⟨h.steps, fun x hx hdx => by
  by_cases e : x = n
  · subst e
    simp [PS.acc, PS.upd] at hdx ⊢
    exact h.frs x hx hdx
  · simp [PS.acc, PS.upd, e] at hdx ⊢
    exact h.frs x hx hdx⟩
theorem Ov.add (h : Ov made t s) (n : Int) (b : ByteArray) : Ov made t (s.add n ⟨b, false, 0, 0, 0, 0⟩) := ⟨h.steps, fun x hx hdx => by
  by_cases e : x = n
  · subst e
    simp [PS.add, PS.upd] at hdx
  · simp [PS.add, PS.upd, e] at hdx ⊢
    exact h.frs x ((mem_insK.1 hx).resolve_left e) hdx⟩
theorem Ov.setd (h : Ov made t s) (n : Int) (b : ByteArray) (lsn : Int) (h0 : made b = 0) (hl : lsn ≠ 0) : Ov (fun x => if x = b then lsn else made x) t (s.set n b lsn) := by
  have hm : ∀ x, made x ≠ 0 → (if x = b then lsn else made x) = made x := fun x hx => if_neg (fun e => hx (by rw [e]; exact h0))
  refine ⟨behind_more hm h.steps, fun x hx hdx => ?_⟩
  by_cases e : x = n
  · subst e
    simp [PS.set, PS.upd, Fr.set]
    exact hl
  · simp only [PS.set, PS.acc, PS.upd, e, if_false] at hdx ⊢
    have hx' : x ∈ s.ks := hx
    have := h.frs x hx' hdx
    rw [hm _ this.2]
    exact this
theorem Ov.get (h : Ov made t s) (hc : 1 ≤ cap) (n : Int) (h0 : 0 ≤ n) (h1 : n < 40) : ∃ t' s' b, pget dvOr cap t s n = (t', s', b, 0) ∧ Ov made t' s' ∧ s'.ck = s.ck + 1 := by
  unfold pget
  by_cases hn : n ∈ s.ks
  · rw [if_pos hn]
    exact ⟨_, _, _, rfl, h.acc n, rfl⟩
  · have hrd : ∃ b, dvOr.rd t n = (t ++ [(114, n, ⟨#[]⟩)], b, 0) := ⟨_, by
      show (t ++ [(114, n, ⟨#[]⟩)], if 0 ≤ n ∧ n < (noPages.length : Int) then (noPages.getD n.toNat ⟨#[]⟩, (0 : Int)) else _) = _
      rw [if_pos ⟨h0, by simp; exact h1⟩]⟩
    obtain ⟨b, hrd⟩ := hrd
    have hr : Ov made (t ++ [(114, n, ⟨#[]⟩)]) s := ⟨behind_append h.steps ⟨fun e => absurd (show (114 : UInt8) = 119 from e) (by decide), trivial⟩, h.frs⟩
    obtain ⟨t1, s1, e1, k1, k2, k3⟩ := (ov_pres made).roomed hc hr
    rw [if_neg hn, hrd, if_neg (by simp)]
    simp only
    rw [e1, if_neg (by simp)]
    exact ⟨_, _, _, rfl, (k1.add n _).acc n, by show s1.ck + 1 = _; rw [k2]⟩
theorem Ov.set (h : Ov made t s) (hc : 1 ≤ cap) (n : Int) (b : ByteArray) (lsn : Int) (h0 : made b = 0) (hl : lsn ≠ 0) : ∃ t' s', pset dvOr cap t s n b lsn = (t', s', 0) ∧ Ov (fun x => if x = b then lsn else made x) t' s' ∧ s'.ck = s.ck + 1 := by
  unfold pset
  by_cases hn : n ∈ s.ks
  · rw [if_pos hn]
    exact ⟨_, _, rfl, h.setd n b lsn h0 hl, rfl⟩
  · obtain ⟨t1, s1, e1, k1, k2, k3⟩ := (ov_pres made).roomed hc h
    rw [if_neg hn, e1, if_neg (by simp)]
    exact ⟨_, _, rfl, (k1.add n _).setd n b lsn h0 hl, by show s1.ck + 1 = _; rw [k2]⟩
theorem Ov.flush (h : Ov made t s) (n : Int) : ∃ t' s', pflush dvOr t s n = (t', s', 0) ∧ Ov made t' s' ∧ s'.ck = s.ck := by
  obtain ⟨t', s', e, h1, h2, h3, _⟩ := (ov_pres made).flushed h n
  exact ⟨t', s', e, h1, h3⟩
theorem Ov.all (h : Ov made t s) : ∃ t' s', pall dvOr t s = (t', s', 0) ∧ Ov made t' s' ∧ pdirty s' = [] := by
  obtain ⟨t', s', e, h1, _, _, h4⟩ := (ov_pres made).all h
  exact ⟨t', s', e, h1, pdirty_nil h4⟩
end
end Go.Proofs.Ytlbeaoglkhfdcaa
