/- A page that was asked for twice stays ahead of those that were asked for once: in plain words. No condition. -/
import Derived.Test.YtlbeaoglkhfdcaaODev
namespace Go.Proofs.Ytlbeaoglkhfdcaa
theorem vicOf_min (fr : Int → Fr) : ∀ (l : List Int) (out : Int) (x : Int), x = out ∨ x ∈ l → less (fr x) (fr (vicOf fr l out)) = false
  | [], out, x, h => by
    rcases h with rfl | h
    · simp [vicOf, less]
    · cases h
  | n :: r, out, x, h => by
    have ih := vicOf_min fr r (if less (fr n) (fr out) = true then n else out)
    have e : vicOf fr (n :: r) out = vicOf fr r (if less (fr n) (fr out) = true then n else out) := rfl
    rw [e]
    generalize vicOf fr r (if less (fr n) (fr out) = true then n else out) = R at *
    by_cases h1 : less (fr n) (fr out) = true
    · rw [if_pos h1] at ih
      have i1 := ih n (.inl rfl)
      have hx : x = out ∨ x = n ∨ x ∈ r := by
        rcases h with h | h
        · exact .inl h
        · exact .inr (by simpa using h)
      rcases hx with rfl | rfl | h
      · simp only [less, Bool.or_eq_true, Bool.and_eq_true, decide_eq_true_eq, Bool.or_eq_false_iff, Bool.and_eq_false_iff, decide_eq_false_iff_not] at h1 i1 ⊢
        omega
      · exact i1
      · exact ih x (.inr h)
    · rw [if_neg h1] at ih
      have i1 := ih out (.inl rfl)
      have hx : x = out ∨ x = n ∨ x ∈ r := by
        rcases h with h | h
        · exact .inl h
        · exact .inr (by simpa using h)
      rcases hx with rfl | rfl | h
      · exact i1
      · simp only [less, Bool.or_eq_true, Bool.and_eq_true, decide_eq_true_eq, Bool.or_eq_false_iff, Bool.and_eq_false_iff, decide_eq_false_iff_not] at h1 i1 ⊢
        omega
      · exact ih x (.inr h)
theorem PS.vic_min (s : PS) {x : Int} (hx : x ∈ s.ks) : less (s.fr x) (s.fr s.vic) = false := vicOf_min s.fr s.ks _ x (.inr hx)
/-- What is there ahead of the k-th page. -/
structure TW (cap : Nat) (k lo : Int) (s : PS) : Prop where
  mem : ∀ x, x ∈ s.ks ↔ x = 0 ∨ (lo ≤ x ∧ x < k)
  lo1 : 1 ≤ lo
  lok : lo ≤ k
  len : (s.ks.length : Int) = k - lo + 1
  full : lo = 1 ∨ (s.ks.length : Int) = cap
  ck : s.ck = k + 1
  zero : (s.fr 0).ahead = 1
  clean : ∀ x ∈ s.ks, (s.fr x).d = false
  rest : ∀ x, lo ≤ x → x < k → (s.fr x).ahead = 0 ∧ (s.fr x).now = x + 2
theorem pflush_clean {σ : Type} (D : Dv σ) (t : σ) (s : PS) (n : Int) (h : (s.fr n).d = false) : pflush D t s n = (t, s, 0) := by
  unfold pflush
  rw [if_neg (by simp [h])]
theorem TW.step {b : ByteArray} {cap : Nat} {k lo : Int} {s : PS} (h : TW cap k lo s) (hR : Rise s.ks) (hcap : 2 ≤ cap) (hl : s.ks.length ≤ cap) (hk1 : 1 ≤ k) :
    ∃ s' lo', pget (dvSame b) cap () s k = ((), s', b, 0) ∧ TW cap (k + 1) lo' s' := by
  have hkn : k ∉ s.ks := fun e => by
    rcases (h.mem k).1 e with e | e
    · omega
    · omega
  by_cases hf : s.ks.length < cap
  · have hlo : lo = 1 := by
      rcases h.full with e | e
      · exact e
      · omega
    refine ⟨(s.add k ⟨b, false, 0, 0, 0, 0⟩).acc k, lo, ?_, ?_⟩
    · unfold pget proom
      rw [if_neg hkn]
      simp [dvSame, hf]
    · have hks : ((s.add k ⟨b, false, 0, 0, 0, 0⟩).acc k).ks = insK k s.ks := rfl
      have hfr : ∀ x, x ≠ k → ((s.add k ⟨b, false, 0, 0, 0, 0⟩).acc k).fr x = s.fr x := fun x hx => by simp [PS.add, PS.acc, PS.upd, hx]
      have hfk : ((s.add k ⟨b, false, 0, 0, 0, 0⟩).acc k).fr k = ⟨b, false, 0, 0, s.ck + 1, 0⟩ := by simp [PS.add, PS.acc, PS.upd]
      refine ⟨fun x => ?_, h.lo1, by have := h.lok; omega, ?_, .inl hlo, ?_, ?_, fun x hx => ?_, fun x h1 h2 => ?_⟩
      · rw [hks, mem_insK, h.mem x]
        have := h.lok
        constructor
        · rintro (e | e | e)
          · exact .inr (by omega)
          · exact .inl e
          · exact .inr (by omega)
        · rintro (e | e)
          · exact .inr (.inl e)
          · by_cases e2 : x = k
            · exact .inl e2
            · exact .inr (.inr (by omega))
      · rw [hks, len_insK hkn]
        have := h.len
        omega
      · show s.ck + 1 = k + 1 + 1
        rw [h.ck]
      · rw [hfr 0 (by omega)]
        exact h.zero
      · by_cases e : x = k
        · rw [e, hfk]
        · rw [hfr x e]
          rw [hks, mem_insK] at hx
          exact h.clean x (hx.elim (fun e2 => absurd e2 e) id)
      · by_cases e : x = k
        · rw [e, hfk]
          exact ⟨rfl, by show s.ck + 1 = k + 2; rw [h.ck]; omega⟩
        · rw [hfr x e]
          exact h.rest x h1 (by omega)
  · have hlen := h.len
    have hlk : lo < k := by omega
    have hlm : lo ∈ s.ks := (h.mem lo).2 (.inr ⟨Int.le_refl _, hlk⟩)
    have hne : s.ks ≠ [] := fun e => by rw [e] at hlm; cases hlm
    have hv : s.vic = lo := by
      have h1 := s.vic_mem hne
      have h2 := s.vic_min hlm
      have h3 := h.rest lo (Int.le_refl _) hlk
      rcases (h.mem s.vic).1 h1 with e | e
      · rw [e] at h2
        simp only [less, h3.1, h.zero] at h2
        simp at h2
      · have h4 := h.rest s.vic e.1 e.2
        simp only [less, h3.1, h3.2, h4.1, h4.2] at h2
        simp at h2
        omega
    have hd : (s.fr lo).d = false := h.clean lo hlm
    have hkn2 : k ∉ (s.del lo).ks := fun e => hkn (List.mem_filter.1 e).1
    have hdl := len_del hR.nodup hlm
    have h1 : (s.del lo).ks.length + 1 = s.ks.length := hdl
    refine ⟨((s.del lo).add k ⟨b, false, 0, 0, 0, 0⟩).acc k, lo + 1, ?_, ?_⟩
    · unfold pget proom
      rw [if_neg hkn]
      simp [dvSame, hf, hv, pflush_clean _ _ _ _ hd]
    · have hks : (((s.del lo).add k ⟨b, false, 0, 0, 0, 0⟩).acc k).ks = insK k (s.del lo).ks := rfl
      have hfr : ∀ x, x ≠ k → (((s.del lo).add k ⟨b, false, 0, 0, 0, 0⟩).acc k).fr x = s.fr x := fun x hx => by simp [PS.add, PS.acc, PS.upd, PS.del, hx]
      have hfk : (((s.del lo).add k ⟨b, false, 0, 0, 0, 0⟩).acc k).fr k = ⟨b, false, 0, 0, s.ck + 1, 0⟩ := by simp [PS.add, PS.acc, PS.upd, PS.del]
      refine ⟨fun x => ?_, by have := h.lo1; omega, by omega, ?_, .inr ?_, ?_, ?_, fun x hx => ?_, fun x h1 h2 => ?_⟩
      · rw [hks, mem_insK, PS.del, List.mem_filter, h.mem x]
        simp only [decide_eq_true_eq]
        have := h.lo1
        omega
      · rw [hks, len_insK hkn2]
        omega
      · rw [hks, len_insK hkn2]
        omega
      · show s.ck + 1 = k + 1 + 1
        rw [h.ck]
      · rw [hfr 0 (by omega)]
        exact h.zero
      · by_cases e : x = k
        · rw [e, hfk]
        · rw [hfr x e]
          rw [hks, mem_insK] at hx
          exact h.clean x (hx.elim (fun e2 => absurd e2 e) (fun e2 => (List.mem_filter.1 e2).1))
      · by_cases e : x = k
        · rw [e, hfk]
          exact ⟨rfl, by show s.ck + 1 = k + 2; rw [h.ck]; omega⟩
        · rw [hfr x e]
          exact h.rest x (by omega) (by omega)
/-- The first and the last one. -/
theorem rise_get {l : List Int} (h : Rise l) : ∀ (i j : Nat) (hi : i < l.length) (hj : j < l.length), i < j → l[i] < l[j] := fun i j hi hj hij => List.pairwise_iff_getElem.1 h i j hi hj hij
theorem TW.ends {cap : Nat} {k lo : Int} {s : PS} (h : TW cap k lo s) (hR : Rise s.ks) (hk : 1 ≤ k) (h2 : lo < k) : ∃ (h0 : 0 < s.ks.length) (h1 : s.ks.length - 1 < s.ks.length), s.ks[0] = 0 ∧ s.ks[s.ks.length - 1] = k - 1 := by
  have hz := (h.mem 0).2 (.inl rfl)
  have hlo := h.lo1
  have h0 : 0 < s.ks.length := List.length_pos_of_mem hz
  refine ⟨h0, by omega, ?_, ?_⟩
  · obtain ⟨i, hi, e⟩ := List.getElem_of_mem hz
    by_cases hi0 : i = 0
    · subst hi0; exact e
    · have := rise_get hR 0 i h0 hi (by omega)
      have := (h.mem _).1 (List.getElem_mem h0)
      omega
  · have hm := (h.mem (k - 1)).2 (.inr (by omega))
    obtain ⟨i, hi, e⟩ := List.getElem_of_mem hm
    by_cases hi0 : i = s.ks.length - 1
    · subst hi0; exact e
    · have := rise_get hR i (s.ks.length - 1) hi (by omega) (by omega)
      have := (h.mem _).1 (List.getElem_mem (show s.ks.length - 1 < s.ks.length by omega))
      omega
/-- Behind the two first accesses. -/
theorem tw_start (b : ByteArray) (cap : Nat) (hcap : 2 ≤ cap) : ∃ s1 s2, pget (dvSame b) cap () PS.new 0 = ((), s1, b, 0) ∧ pget (dvSame b) cap () s1 0 = ((), s2, b, 0) ∧ s1.ck = 1 ∧ s1.ks = [0] ∧ s2.ks = [0] ∧ TW cap 1 1 s2 := by
  refine ⟨(PS.new.add 0 ⟨b, false, 0, 0, 0, 0⟩).acc 0, ((PS.new.add 0 ⟨b, false, 0, 0, 0, 0⟩).acc 0).acc 0, ?_, ?_, rfl, rfl, rfl, ?_⟩
  · unfold pget proom
    have h0 : 0 < cap := by omega
    simp [dvSame, PS.new, h0]
  · unfold pget
    rw [if_pos (by simp [PS.acc, PS.add, insK, PS.new, PS.upd])]
    simp [PS.acc, PS.add, insK, PS.new, PS.upd]
  · refine ⟨fun x => ?_, by omega, by omega, rfl, .inl rfl, rfl, rfl, fun x hx => ?_, fun x h1 h2 => by omega⟩
    · show x ∈ [0] ↔ _
      simp
      omega
    · have : x = 0 := by simpa using (show x ∈ [0] from hx)
      subst this
      rfl
end Go.Proofs.Ytlbeaoglkhfdcaa
