/- Writes of texts one behind the other, synced, kept or not; a row of truths beside a disk. No condition. -/
import Derived.Test.YtnphpnbliigfbaaLd
import Derived.Test.YtnphpnbliigfbaaLLast
namespace Go.Proofs.Ytnphpnbliigfbaa
open Go.RowKit

theorem Try.infoBool : (Try.prog.info? 4).map (fun i => (i.zero, i.size, i.bytes)) = some (some (.bool false), 1, 1) := by kernel_rfl
/-- So many writes of texts, from sector 0 on. -/
def pw (l : List (List UInt8)) (j : Nat) : List (Nat × List UInt8) := (List.range j).map (fun i => (i, l.getD i []))
def dS (S : List (List UInt8)) (l : List (List UInt8)) (j : Nat) : Dk := { safe := S, pend := pw l j, stops := false, after := 0, dead := false }
theorem pw_length (l : List (List UInt8)) (j : Nat) : (pw l j).length = j := by simp [pw]
theorem pw_snoc (l : List (List UInt8)) (j : Nat) : pw l (j + 1) = pw l j ++ [(j, l.getD j [])] := by simp [pw, List.range_succ]
theorem s_write {S l : List (List UInt8)} {j : Nat} {s : List UInt8} (hj : j < S.length) (hl : l.getD j [] = s) (hs : s.length = 64) : dwrite (dS S l j) j s = (dS S l (j + 1), 0) := by
  have h1 : isIn (dS S l j) j = true := by simp [isIn, dS]; omega
  rw [dwrite, h1, if_neg (by simp [dS]), if_neg (by simp), if_neg (by simp [hs]), if_neg (by simp [dS])]
  rw [← hl]
  simp [dS, pw_snoc]
theorem s_sync (S l l' : List (List UInt8)) (j : Nat) : dsync (dS S l j) = (dS (dset S (pw l j)) l' 0, 0) := rfl
theorem kept_all {α : Type} : ∀ l : List α, keptOf l (List.replicate l.length true) = l
  | [] => rfl
  | a :: l => by rw [List.length_cons, List.replicate_succ, keptOf, if_pos rfl, kept_all l]
theorem kept_none {α : Type} : ∀ (l : List α) (n : Nat), keptOf l (List.replicate n false) = []
  | [], n => by cases n <;> rfl
  | a :: l, 0 => rfl
  | a :: l, n + 1 => by rw [List.replicate_succ, keptOf, if_neg (by decide), kept_none l n]
def after (S l : List (List UInt8)) (j : Nat) (k : Bool) : List (List UInt8) := if k then dset S (pw l j) else S
theorem s_crash (S l : List (List UInt8)) (j : Nat) (k : Bool) : ∃ c, dcrash (dS S l j) (List.replicate j k) = (dS (after S l j k) l 0, c) := by
  have e : (dS S l j).pend = pw l j := rfl
  cases k
  · exact ⟨_, by rw [dcrash, e, kept_none]; rfl⟩
  · have := kept_all (pw l j)
    rw [pw_length] at this
    exact ⟨_, by rw [dcrash, e, this]; rfl⟩
theorem set_get (S l : List (List UInt8)) (i : Nat) : ∀ j, j ≤ S.length → (dset S (pw l j)).getD i [] = if i < j then l.getD i [] else S.getD i []
  | 0, _ => by simp [pw, dset]
  | j + 1, hj => by
    have ih := set_get S l i j (by omega)
    have hl := dset_length (pw l j) S
    rw [pw_snoc, dset_snoc]
    by_cases e : i = j
    · subst e
      rw [if_pos (by omega), List.getD, List.getElem?_set_self (by omega)]
      rfl
    · rw [List.getD, List.getElem?_set_ne (by simpa using Ne.symm e), ← List.getD, ih]
      by_cases c : i < j
      · simp [c, show i < j + 1 by omega]
      · simp [c, show ¬ i < j + 1 by omega]
theorem s_read (S l : List (List UInt8)) (i : Nat) (h : i < S.length) {s : List UInt8} (hs : S.getD i [] = s) : dread (dS S l 0) i = (s, 0) := by
  have h1 : isIn (dS S l 0) i = true := by simp [isIn, dS]; omega
  rw [dread, if_neg (by simp [dS]), if_pos h1, Int.toNat_natCast, show (dS S l 0).safe = S from rfl, hs]
  rfl

/-- A disk of the call's own, and a row of truths beside it. -/
def DB (H : Nat) (w0 w : World) (B : Nat) (d : Dk) (v : Value) (n : Nat) (k : Bool) : Prop :=
  ∃ rs rp m, DAt w B rs rp m d ∧ (∀ k, DS B rs rp m k → H ≤ k) ∧ Below H w0 w ∧ H ≤ w.heap.size ∧ w.ownsRow H 4 1 v n (List.replicate n (.bool k)) ∧ ∀ g, v.ownBlock = some g → ¬ DS B rs rp m g
section
variable {H B : Nat} {w0 w : World} {d : Dk} {v : Value} {n : Nat} {k : Bool}
theorem DAt.lt {rs rp : Option Nat} {m : Nat} (h : DAt w B rs rp m d) (k : Nat) (e : DS B rs rp m k) : k < w.heap.size := by
  obtain ⟨_, vs, vp, rfl, rfl, hb, hs, hp, hm⟩ := h
  rcases e with e | e | e | e
  · subst e; exact lt_of hb
  · exact (hs.lt k e).2
  · exact (hp.lt k e).2
  · subst e
    obtain ⟨es, cl, hc⟩ := hm.block
    exact lt_of hc
theorem new_one (w : World) (a : Value) (b' : Nat) {t : TypeId} (h : b' = w.heap.size) : ∀ j u, [a][j]? = some u → (w.alloc (.cells #[a] t)).cell? ((⟨b', 0, none⟩ : Addr).add j) = some u := by
  intro j u hu
  subst h
  cases j with
  | zero => simp at hu; subst hu; exact cell_of (heap_alloc_new w _) rfl
  | succ j => simp at hu
theorem DB.start (h : DIn H w0 w B d) : DB H w0 w B d (.slice none 0 0) 0 k := by
  obtain ⟨rs, rp, m, ha, hk, hb, hz⟩ := h
  exact ⟨rs, rp, m, ha, hk, hb, hz, World.ownsRow_nil _ _ _ _, fun g h => by cases h⟩
theorem DB.din (h : DB H w0 w B d v n k) : DIn H w0 w B d := by
  obtain ⟨rs, rp, m, ha, hk, hb, hz, _⟩ := h
  exact ⟨rs, rp, m, ha, hk, hb, hz⟩
theorem DB.row (h : DB H w0 w B d v n k) : w.ownsRow H 4 1 v n (List.replicate n (.bool k)) := by
  obtain ⟨_, _, _, _, _, _, _, h, _⟩ := h; exact h
theorem DB.more {w1 : World} (h : DB H w0 w B d v n k) (c : Below w.heap.size w w1) : DB H w0 w1 B d v n k := by
  obtain ⟨rs, rp, m, ha, hk, hb, hz, hr, hn⟩ := h
  have c' : Chg (fun _ => False) w w1 := Chg.of_below c
  exact ⟨rs, rp, m, ha.keep c' (fun _ _ h => h), hk, hb.trans (c.mono hz), Nat.le_trans hz c.size, c'.row hr (fun _ _ h => h), hn⟩
theorem DB.write (i : Int) (s : List UInt8) {d' : Dk} {x : Int} (q : dwrite d i s = (d', x)) (hmany : d.pend.length < 1000000) (h : DB H w0 w B d v n k) :
    Calls Try.prog 14 #[.pointer (some ⟨B, 0, none⟩), .int .i64 i, .string (mk s)] w fun e w' => e = .returned (.int .i64 x) ∧ DB H w0 w' B d' v n k := by
  obtain ⟨rs, rp, m, ha, hk, hb, hz, hr, hn⟩ := h
  refine (kWrite i s ha hmany).mono fun e w' ⟨he, hp⟩ => ?_
  rw [q] at he hp
  obtain ⟨rp', ha', hc, hro⟩ := hp
  have hb' : Below H w0 w' := hb.trans (hc.below (fun k _ e => hk k e) hz)
  refine ⟨he, rs, rp', m, ha', ?_, hb', Nat.le_trans hz hc.size, hc.row hr hn, ?_⟩
  · intro k e
    rcases e with e | e | e | e
    · exact hk k (.inl e)
    · exact hk k (.inr (.inl e))
    · rcases hro with rfl | hro
      · exact hk k (.inr (.inr (.inl e)))
      · exact Nat.le_trans hz (hro k e)
    · exact hk k (.inr (.inr (.inr e)))
  · intro g hg e
    rcases e with e | e | e | e
    · exact hn g hg (.inl e)
    · exact hn g hg (.inr (.inl e))
    · rcases hro with rfl | hro
      · exact hn g hg (.inr (.inr (.inl e)))
      · obtain ⟨cur, hcur⟩ := own_block hr hg
        have := lt_of hcur
        have := hro g e
        omega
    · exact hn g hg (.inr (.inr (.inr e)))
theorem DB.grew {w1 : World} {v' : Value} {n' : Nat} (h : DB H w0 w B d v n k) (hown : w1.ownsRow H 4 1 v' n' (List.replicate n' (.bool k))) (hg : w.grownBy w1 v.ownBlock) (hr : v'.ownBlock = v.ownBlock ∨ ∀ k, v'.ownBlock = some k → w.heap.size ≤ k) : DB H w0 w1 B d v' n' k := by
  obtain ⟨rs, rp, m, ha, hk, hb, hz, hrow, hn⟩ := h
  have hc : Chg (fun k => v.ownBlock = some k) w w1 := (Chg.refl _ w).grown hg (fun _ _ h => h)
  have ha' := ha.keep hc (fun k e h => hn k h e)
  refine ⟨rs, rp, m, ha', hk, hb.grown hg hz ?_, Nat.le_trans hz hc.size, hown, ?_⟩
  · intro g hg'
    exact (hrow.lt g hg').1
  · intro g hg' e
    rcases hr with hr | hr
    · exact hn g (hr ▸ hg') e
    · have h1 := hr g hg'
      have h2 := ha.lt g e
      omega
end
end Go.Proofs.Ytnphpnbliigfbaa
