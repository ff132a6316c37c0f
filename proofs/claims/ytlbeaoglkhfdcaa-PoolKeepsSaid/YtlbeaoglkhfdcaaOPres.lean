/- What stays through a pool's steps where disk and log refuse nothing: in plain words. No condition. -/
import Derived.Test.YtlbeaoglkhfdcaaODev
namespace Go.Proofs.Ytlbeaoglkhfdcaa
section
variable {σ : Type} (D : Dv σ)
/-- What stays. -/
structure Pres (I : σ → PS → Prop) : Prop where
  flush : ∀ t s n, I t s → n ∈ s.ks → (s.fr n).d = true → (D.lg t (s.fr n).last).2 = 0 ∧ (D.wr (D.lg t (s.fr n).last).1 n (s.fr n).b).2 = 0 ∧ I (D.wr (D.lg t (s.fr n).last).1 n (s.fr n).b).1 (s.upd n { s.fr n with d := false })
  del : ∀ t s n, I t s → n ∈ s.ks → (s.fr n).d = false → I t (s.del n)
end
section
variable {σ : Type} {D : Dv σ} {I : σ → PS → Prop}
theorem Pres.flushed (H : Pres D I) {t : σ} {s : PS} (h : I t s) (n : Int) :
    ∃ t' s', pflush D t s n = (t', s', 0) ∧ I t' s' ∧ s'.ks = s.ks ∧ s'.ck = s.ck ∧ (∀ x, (s.fr x).d = false → (s'.fr x).d = false) ∧ (n ∈ s.ks → (s'.fr n).d = false) := by
  unfold pflush
  by_cases hk : n ∈ s.ks ∧ (s.fr n).d = true
  · obtain ⟨h1, h2, h3⟩ := H.flush t s n h hk.1 hk.2
    rw [if_pos hk, if_neg (by simpa using h1), if_neg (by simpa using h2)]
    refine ⟨_, _, rfl, h3, rfl, rfl, fun x hx => ?_, fun _ => by simp [PS.upd]⟩
    by_cases e : x = n
    · simp [PS.upd, e]
    · simpa [PS.upd, e] using hx
  · rw [if_neg hk]
    refine ⟨t, s, rfl, h, rfl, rfl, fun x hx => hx, fun h1 => ?_⟩
    cases hd : (s.fr n).d with
    | true => exact absurd ⟨h1, hd⟩ hk
    | false => rfl
theorem Pres.roomed (H : Pres D I) {t : σ} {s : PS} {cap : Nat} (hc : 1 ≤ cap) (h : I t s) :
    ∃ t' s', proom D cap t s = (t', s', 0) ∧ I t' s' ∧ s'.ck = s.ck ∧ ∀ x, x ∈ s'.ks → x ∈ s.ks := by
  unfold proom
  by_cases hl : s.ks.length < cap
  · rw [if_pos hl]
    exact ⟨t, s, rfl, h, rfl, fun _ h => h⟩
  · have hne : s.ks ≠ [] := fun e => by rw [e] at hl; simp at hl; omega
    have hv := s.vic_mem hne
    obtain ⟨t', s', e, h1, h2, h2c, h3, h4⟩ := H.flushed h s.vic
    rw [if_neg hl, e, if_neg (by simp)]
    exact ⟨_, _, rfl, H.del _ _ _ h1 (by rw [h2]; exact hv) (h4 hv), h2c, fun x hx => by rw [← h2]; exact (List.mem_filter.1 hx).1⟩
theorem Pres.alled (H : Pres D I) : ∀ (l : List Int) {t : σ} {s : PS}, I t s →
    ∃ t' s', pallOf D l t s = (t', s', 0) ∧ I t' s' ∧ s'.ks = s.ks ∧ s'.ck = s.ck ∧ (∀ x, (s.fr x).d = false → (s'.fr x).d = false) ∧ (∀ x ∈ l, x ∈ s.ks → (s'.fr x).d = false)
  | [], t, s, h => ⟨t, s, rfl, h, rfl, rfl, fun _ h => h, fun x hx => by cases hx⟩
  | n :: r, t, s, h => by
    obtain ⟨t', s', e, h1, h2, h2c, h3, h4⟩ := H.flushed h n
    obtain ⟨t2, s2, e2, k1, k2, k2c, k3, k4⟩ := H.alled r h1
    refine ⟨t2, s2, ?_, k1, k2.trans h2, k2c.trans h2c, fun x hx => k3 x (h3 x hx), fun x hx hs => ?_⟩
    · unfold pallOf
      rw [e, if_neg (by simp)]
      exact e2
    · rcases List.mem_cons.1 hx with rfl | hx
      · exact k3 _ (h4 hs)
      · exact k4 x hx (by rw [h2]; exact hs)
theorem Pres.all (H : Pres D I) {t : σ} {s : PS} (h : I t s) :
    ∃ t' s', pall D t s = (t', s', 0) ∧ I t' s' ∧ s'.ks = s.ks ∧ s'.ck = s.ck ∧ ∀ x ∈ s'.ks, (s'.fr x).d = false := by
  obtain ⟨t', s', e, h1, h2, h2c, _, h4⟩ := H.alled s.ks h
  exact ⟨t', s', e, h1, h2, h2c, fun x hx => h4 x (by rw [← h2]; exact hx) (by rw [← h2]; exact hx)⟩
theorem pdirty_nil {s : PS} (h : ∀ x ∈ s.ks, (s.fr x).d = false) : pdirty s = [] := by
  unfold pdirty
  rw [List.map_eq_nil_iff, List.filter_eq_nil_iff]
  intro x hx
  simp [h x hx]
end
end Go.Proofs.Ytlbeaoglkhfdcaa
