/- What was set is told, whether it was written in between, or not: in plain words. No condition. -/
import Derived.Test.YtlbeaoglkhfdcaaOPres
namespace Go.Proofs.Ytlbeaoglkhfdcaa
abbrev KeT := (Int → ByteArray) × Nat
def dvKe : Dv KeT := ⟨fun t n => (t, t.1 n, 0), fun t n b => ((fun x => if x = n then b else t.1 x, t.2 + 1), 0), fun t _ => (t, 0)⟩
/-- Disk and frames beside what was set last. -/
structure Kv (now : Int → ByteArray) (t : KeT) (s : PS) : Prop where
  out : ∀ x, x ∉ s.ks → t.1 x = now x
  inn : ∀ x, x ∈ s.ks → (s.fr x).b = now x
  cln : ∀ x, x ∈ s.ks → (s.fr x).d = false → t.1 x = now x
theorem kv_pres (now : Int → ByteArray) : Pres dvKe (Kv now) where
  flush t s n h hn hd := by
    refine ⟨rfl, rfl, ⟨fun x hx => ?_, fun x hx => ?_, fun x hx hdx => ?_⟩⟩
    · have e : x ≠ n := fun e => hx (e ▸ hn)
      simp only [dvKe, if_neg e]
      exact h.out x hx
    · by_cases e : x = n
      · subst e; simp [PS.upd]; exact h.inn x hx
      · simp [PS.upd, e]; exact h.inn x hx
    · by_cases e : x = n
      · subst e; simp [dvKe]; exact h.inn x hx
      · simp only [dvKe, if_neg e]
        simp [PS.upd, e] at hdx
        exact h.cln x hx hdx
  del t s n h hn hd := by
    refine ⟨fun x hx => ?_, fun x hx => h.inn x (List.mem_filter.1 hx).1, fun x hx hdx => h.cln x (List.mem_filter.1 hx).1 hdx⟩
    by_cases e : x ∈ s.ks
    · have : x = n := Classical.byContradiction fun e2 => hx (List.mem_filter.2 ⟨e, by simpa using e2⟩)
      subst this
      exact h.cln x hn hd
    · exact h.out x e
section
variable {now : Int → ByteArray} {t : KeT} {s : PS} {cap : Nat}
theorem Kv.new (m : Nat) : Kv (fun _ => ByteArray.empty) (fun _ => ByteArray.empty, m) PS.new := ⟨fun _ _ => rfl, fun _ h => (by cases h), fun _ h => (by cases h)⟩
theorem Kv.get (h : Kv now t s) (hc : 1 ≤ cap) (n : Int) : ∃ t' s', pget dvKe cap t s n = (t', s', now n, 0) ∧ Kv now t' s' ∧ s'.ck = s.ck + 1 := by
  unfold pget
  by_cases hn : n ∈ s.ks
  · rw [if_pos hn, h.inn n hn]
    refine ⟨_, _, rfl, ⟨fun x hx => h.out x hx, fun x hx => ?_, fun x hx hdx => ?_⟩, rfl⟩
    · by_cases e : x = n
      · subst e; simp [PS.acc, PS.upd]; exact h.inn x hx
      · simp [PS.acc, PS.upd, e]; exact h.inn x hx
    · refine h.cln x hx ?_
      by_cases e : x = n
      · subst e; simpa [PS.acc, PS.upd] using hdx
      · simpa [PS.acc, PS.upd, e] using hdx
  · obtain ⟨t1, s1, e1, k1, k2, k3⟩ := (kv_pres now).roomed hc h
    have hn1 : n ∉ s1.ks := fun e => hn (k3 n e)
    have hrd : dvKe.rd t n = (t, now n, 0) := by show (t, t.1 n, (0 : Int)) = _; rw [h.out n hn]
    rw [if_neg hn, hrd, if_neg (by simp)]
    simp only
    rw [e1, if_neg (by simp)]
    refine ⟨_, _, rfl, ⟨fun x hx => ?_, fun x hx => ?_, fun x hx hdx => ?_⟩, by show s1.ck + 1 = _; rw [k2]⟩
    · exact k1.out x fun e => hx (mem_insK.2 (.inr e))
    · by_cases e : x = n
      · subst e; simp [PS.add, PS.acc, PS.upd]
      · have hx' := mem_insK.1 hx
        simp [PS.add, PS.acc, PS.upd, e]; exact k1.inn x (hx'.resolve_left e)
    · by_cases e : x = n
      · subst e; exact k1.out x hn1
      · have hx' := mem_insK.1 hx
        refine k1.cln x (hx'.resolve_left e) ?_
        simpa [PS.add, PS.acc, PS.upd, e] using hdx
theorem Kv.set (h : Kv now t s) (hc : 1 ≤ cap) (n : Int) (b : ByteArray) (lsn : Int) : ∃ t' s', pset dvKe cap t s n b lsn = (t', s', 0) ∧ Kv (fun x => if x = n then b else now x) t' s' ∧ s'.ck = s.ck + 1 := by
  unfold pset
  by_cases hn : n ∈ s.ks
  · rw [if_pos hn]
    refine ⟨_, _, rfl, ⟨fun x hx => ?_, fun x hx => ?_, fun x hx hdx => ?_⟩, rfl⟩
    · have e : x ≠ n := fun e => hx (e ▸ hn)
      simp only [if_neg e]
      exact h.out x hx
    · by_cases e : x = n
      · subst e; simp [PS.set, PS.upd, Fr.set]
      · simp [PS.set, PS.acc, PS.upd, e]; exact h.inn x hx
    · by_cases e : x = n
      · subst e; simp [PS.set, PS.upd, Fr.set] at hdx
      · simp only [if_neg e]
        refine h.cln x hx ?_
        simpa [PS.set, PS.acc, PS.upd, e] using hdx
  · obtain ⟨t1, s1, e1, k1, k2, k3⟩ := (kv_pres now).roomed hc h
    have hn1 : n ∉ s1.ks := fun e => hn (k3 n e)
    rw [if_neg hn, e1, if_neg (by simp)]
    refine ⟨_, _, rfl, ⟨fun x hx => ?_, fun x hx => ?_, fun x hx hdx => ?_⟩, by show s1.ck + 1 = _; rw [k2]⟩
    · have e : x ≠ n := fun e => hx (mem_insK.2 (.inl e))
      simp only [if_neg e]
      exact k1.out x fun e => hx (mem_insK.2 (.inr e))
    · by_cases e : x = n
      · subst e; simp [PS.set, PS.upd, Fr.set]
      · have hx' := mem_insK.1 hx
        simp [PS.set, PS.add, PS.acc, PS.upd, e]; exact k1.inn x (hx'.resolve_left e)
    · by_cases e : x = n
      · subst e; simp [PS.set, PS.upd, Fr.set] at hdx
      · have hx' := mem_insK.1 hx
        simp only [if_neg e]
        refine k1.cln x (hx'.resolve_left e) ?_
        simpa [PS.set, PS.add, PS.acc, PS.upd, e] using hdx
theorem Kv.flush (h : Kv now t s) (n : Int) : ∃ t' s', pflush dvKe t s n = (t', s', 0) ∧ Kv now t' s' ∧ s'.ck = s.ck ∧ t'.1 n = now n := by
  obtain ⟨t', s', e, h1, h2, h3, _, h4⟩ := (kv_pres now).flushed h n
  refine ⟨t', s', e, h1, h3, ?_⟩
  by_cases hn : n ∈ s.ks
  · exact h1.cln n (by rw [h2]; exact hn) (h4 hn)
  · exact h1.out n (by rw [h2]; exact hn)
theorem Kv.all (h : Kv now t s) : ∃ t' s', pall dvKe t s = (t', s', 0) ∧ Kv now t' s' ∧ s'.ck = s.ck ∧ s'.ks = s.ks ∧ pdirty s' = [] ∧ ∀ x, t'.1 x = now x := by
  obtain ⟨t', s', e, h1, h2, h3, h4⟩ := (kv_pres now).all h
  refine ⟨t', s', e, h1, h3, h2, pdirty_nil h4, fun x => ?_⟩
  by_cases hn : x ∈ s'.ks
  · exact h1.cln x hn (h4 x hn)
  · exact h1.out x hn
end
end Go.Proofs.Ytlbeaoglkhfdcaa
