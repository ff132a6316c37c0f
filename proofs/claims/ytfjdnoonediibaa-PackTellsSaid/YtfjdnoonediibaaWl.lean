/- One writer, one reader of the call's own, a copy of an operation beside it; plain facts of operations. No condition. -/
import Derived.Test.YtfjdnoonediibaaNil
import Derived.Test.YtfjdnoonediibaaI2
import Derived.Test.YtfjdnoonediibaaOpenOps
namespace Go.Proofs.Ytfjdnoonediibaa
open Go.RowKit

/-- The copy of an operation. -/
def LOp (w : World) (L : Nat) (x : OpD) : Prop := w.heap[L]? = some (.cells #[.int .i64 x.1, .int .i64 x.2.1, .string x.2.2] 43 (0, 0))
theorem LOp.below {w w' : World} {L : Nat} {x : OpD} (h : LOp w L x) (b : Below w.heap.size w w') : LOp w' L x := (b.block L (lt_of h)).trans h
theorem LOp.new (w : World) (L : Nat) (x : OpD) (h : L = w.heap.size) : LOp (w.alloc (.cells #[.int .i64 x.1, .int .i64 x.2.1, .string x.2.2] 43)) L x := by
  subst h; exact heap_alloc_new w _
theorem WIn.alloc' {H B : Nat} {w0 w : World} {xs : List UInt8} {b : Bool} (h : WIn H w0 w B xs b) (o : Obj) : WIn H w0 (w.alloc o) B xs b := by
  obtain ⟨row, ha, h1, h2, h3, h4⟩ := h
  exact ⟨row, ha.kept ((Chg.refl (fun _ => False) w).alloc o) (fun h => h) (fun _ _ h => h), h1, h2, h3.alloc h4 o, by simp; omega⟩
theorem WIn.more {H B : Nat} {w0 w w' : World} {xs : List UInt8} {b : Bool} (h : WIn H w0 w B xs b) (c : Below w.heap.size w w') : WIn H w0 w' B xs b := by
  obtain ⟨row, ha, h1, h2, h3, h4⟩ := h
  exact ⟨row, ha.kept (Chg.of_below (S := fun _ => False) c) (fun h => h) (fun _ _ h => h), h1, h2, h3.trans (c.mono h4), Nat.le_trans h4 c.size⟩
theorem WAt.lop {w w' : World} {B L : Nat} {row : Option Nat} {xs : List UInt8} {b : Bool} {x : OpD} (h : WAt w B row xs b) (hl : LOp w L x) (c : Chg (WS B row) w w') : LOp w' L x := by
  refine c.heap hl ?_
  obtain ⟨v, hv, hb, hown⟩ := h
  rintro (e | e)
  · subst e
    rw [LOp, hb] at hl; simp at hl
  · rw [← hv] at e
    obtain ⟨cur, hc⟩ := own_block hown e
    rw [LOp, hc] at hl; simp at hl
section
variable {H B R L : Nat} {w0 w : World} {xs l : List UInt8} {b : Bool} {o : OpD}
theorem lNum {ys : List UInt8} {c : Bool} (x : Int) (q : wput 2 x xs b = (ys, c)) (hs : xs.length + 2 ≤ 140737488355328) (h : WIn H w0 w B xs b) (hl : LOp w L o) :
    Calls Try.prog 11 #[.pointer (some ⟨B, 0, none⟩), .int .i64 x] w fun e w' => e = .returned (.pointer (some ⟨B, 0, none⟩)) ∧ WIn H w0 w' B ys c ∧ LOp w' L o := by
  obtain ⟨row, ha, hB, hr, hb, hz⟩ := h
  refine (wNum B row xs b x w hs ha).mono fun e w' ⟨he, hp⟩ => ?_
  rw [q] at hp
  exact ⟨he, WIn.step hB hr hb hz hp, by obtain ⟨_, _, hc, _⟩ := hp; exact ha.lop hl hc⟩
theorem lLong {ys : List UInt8} {c : Bool} (x : Int) (q : wput 4 x xs b = (ys, c)) (hs : xs.length + 4 ≤ 140737488355328) (h : WIn H w0 w B xs b) (hl : LOp w L o) :
    Calls Try.prog 19 #[.pointer (some ⟨B, 0, none⟩), .int .i64 x] w fun e w' => e = .returned (.pointer (some ⟨B, 0, none⟩)) ∧ WIn H w0 w' B ys c ∧ LOp w' L o := by
  obtain ⟨row, ha, hB, hr, hb, hz⟩ := h
  refine (wLong B row xs b x w hs ha).mono fun e w' ⟨he, hp⟩ => ?_
  rw [q] at hp
  exact ⟨he, WIn.step hB hr hb hz hp, by obtain ⟨_, _, hc, _⟩ := hp; exact ha.lop hl hc⟩
theorem lText {ys : List UInt8} {c : Bool} (s : ByteArray) (q : wtext s.data.toList xs b = (ys, c)) (hs : xs.length + 2 + s.size ≤ 140737488355328) (h : WIn H w0 w B xs b) (hl : LOp w L o) :
    Calls Try.prog 12 #[.pointer (some ⟨B, 0, none⟩), .string s] w fun e w' => e = .returned (.pointer (some ⟨B, 0, none⟩)) ∧ WIn H w0 w' B ys c ∧ LOp w' L o := by
  obtain ⟨row, ha, hB, hr, hb, hz⟩ := h
  refine (wText B row xs b s w hs ha).mono fun e w' ⟨he, hp⟩ => ?_
  rw [q] at hp
  exact ⟨he, WIn.step hB hr hb hz hp, by obtain ⟨_, _, hc, _⟩ := hp; exact ha.lop hl hc⟩
end

/-- An operation's bytes; may it be written? -/
def enc (x : OpD) : List UInt8 := if x.1 = 1 then be 2 x.2.1.toNat else if x.1 = 2 then be 4 x.2.1.toNat else be 2 x.2.2.data.toList.length ++ x.2.2.data.toList
def okOp (x : OpD) : Bool := if x.1 = 1 then decide (0 ≤ x.2.1 ∧ x.2.1 < 65536) else if x.1 = 2 then decide (0 ≤ x.2.1 ∧ x.2.1 < 4294967296) else true
def encs (l : List OpD) : List UInt8 := l.flatMap enc
theorem encs_snoc (l : List OpD) (x : OpD) : encs (l ++ [x]) = encs l ++ enc x := by simp [encs]
theorem all_snoc (l : List OpD) (x : OpD) : (l ++ [x]).all okOp = (l.all okOp && okOp x) := by simp
/-- What stands behind k operations. -/
def Told (l : List OpD) (k : Nat) (want : ByteArray) (xs : List UInt8) (good : Bool) : Prop :=
  good = (l.take k).all okOp ∧ (good = true → want = mk (encs (l.take k)) ∧ xs = encs (l.take k)) ∧ xs.length ≤ k * 302 ∧ want.size ≤ k * 302 ∧ ∀ x ∈ l.take k, x.2.2.size ≤ 300
theorem Told.start (l : List OpD) : Told l 0 ByteArray.empty [] true := ⟨rfl, fun _ => ⟨rfl, rfl⟩, by simp, by simp, by simp⟩
theorem put_num (n : Nat) (x : Int) (xs : List UInt8) (good : Bool) : ∃ ys, wput n x xs (!good) = (ys, !(good && decide (0 ≤ x ∧ x < (256 : Int) ^ n))) ∧ ys.length ≤ xs.length + n ∧ ((good && decide (0 ≤ x ∧ x < (256 : Int) ^ n)) = true → ys = xs ++ be n x.toNat) := by
  by_cases h : good = true ∧ 0 ≤ x ∧ x < (256 : Int) ^ n
  · have e : (good && decide (0 ≤ x ∧ x < (256 : Int) ^ n)) = true := by simp [h.1, h.2]
    rw [e]
    refine ⟨xs ++ be n x.toNat, ?_, by simp [be_length], fun _ => rfl⟩
    rw [wput_yes]
    · rfl
    · rintro (e | e | e)
      · rw [h.1] at e; cases e
      · omega
      · omega
  · have e : (good && decide (0 ≤ x ∧ x < (256 : Int) ^ n)) = false := by
      cases good
      · rfl
      · simp only [Bool.true_and, decide_eq_false_iff_not]
        exact fun c => h ⟨rfl, c⟩
    rw [e]
    refine ⟨xs, ?_, by omega, fun h => by cases h⟩
    rw [wput_no]
    · rfl
    · cases good
      · exact .inl rfl
      · by_cases h0 : x < 0
        · exact .inr (.inl h0)
        · exact .inr (.inr (Int.not_lt.1 (fun c => h ⟨rfl, by omega, c⟩)))
theorem Told.step {l : List OpD} {k : Nat} {want : ByteArray} {xs ys : List UInt8} {good ok : Bool} {x : OpD} {s : List UInt8} (h : Told l k want xs good) (hk : k < l.length) (hx : x = l[k]) (h3 : x.2.2.size ≤ 300) (hok : ok = okOp x) (hs : s.length ≤ 302) (hse : ok = true → s = enc x)
    (hy : ys.length ≤ xs.length + 302) (hye : (good && ok) = true → ys = xs ++ enc x) : Told l (k + 1) (want ++ mk s) ys (good && ok) := by
  obtain ⟨h1, h2, hl, hw, ha⟩ := h
  have ht : l.take (k + 1) = l.take k ++ [x] := by rw [List.take_succ_eq_append_getElem hk, hx]
  refine ⟨by rw [ht, all_snoc, h1, hok], fun hg => ?_, by omega, ?_, ?_⟩
  · have hg' := hg
    rw [Bool.and_eq_true] at hg
    obtain ⟨e1, e2⟩ := h2 hg.1
    rw [ht, encs_snoc, hye hg', e1, hse hg.2, ← e2]
    refine ⟨?_, rfl⟩
    apply ByteArray.ext
    apply Array.ext'
    simp [mk]
  · rw [ByteArray.size_append, mk_size]; omega
  · rw [ht]
    intro y hy
    rcases List.mem_append.1 hy with hy | hy
    · exact ha y hy
    · rw [List.mem_singleton.1 hy]; exact h3
theorem ok_num (n : Nat) (hn : n = 2 ∨ n = 4) (x : Int) : decide (0 ≤ x ∧ x / (256 : Int) ^ n = 0) = decide (0 ≤ x ∧ x < (256 : Int) ^ n) := by
  congr 1
  rw [eq_iff_iff]
  rcases hn with rfl | rfl
  · constructor
    · rintro ⟨e1, e2⟩
      exact ⟨e1, by omega⟩
    · rintro ⟨e1, e2⟩
      exact ⟨e1, by omega⟩
  · constructor
    · rintro ⟨e1, e2⟩
      exact ⟨e1, by omega⟩
    · rintro ⟨e1, e2⟩
      exact ⟨e1, by omega⟩
theorem told_num {l : List OpD} {k n : Nat} {s : ByteArray} {xs ys t : List UInt8} {g ok : Bool} {x : OpD} (ht : Told l k s xs g) (hk : k < l.length) (hx : x = l[k]) (h3 : x.2.2.size ≤ 300) (hn : n = 2 ∨ n = 4)
    (eo : okOp x = decide (0 ≤ x.2.1 ∧ x.2.1 < (256 : Int) ^ n)) (ee : enc x = be n x.2.1.toNat) (ht1 : t.length = n) (hok : ok = decide (0 ≤ x.2.1 ∧ x.2.1 / (256 : Int) ^ n = 0)) (hte : 0 ≤ x.2.1 → t = be n x.2.1.toNat)
    (hy : ys.length ≤ xs.length + n) (hye : (g && decide (0 ≤ x.2.1 ∧ x.2.1 < (256 : Int) ^ n)) = true → ys = xs ++ be n x.2.1.toNat) :
    Told l (k + 1) (s ++ mk t) ys (g && ok) ∧ (g && decide (0 ≤ x.2.1 ∧ x.2.1 < (256 : Int) ^ n)) = (g && ok) := by
  rw [ok_num n hn] at hok
  refine ⟨ht.step hk hx h3 (by rw [hok, eo]) (by omega) (fun e => ?_) (by omega) (fun e => ?_), by rw [hok]⟩
  · rw [hok] at e
    rw [hte (of_decide_eq_true e).1, ee]
  · rw [hok] at e
    rw [hye e, ee]
theorem told_text {l : List OpD} {k : Nat} {s : ByteArray} {xs t : List UInt8} {g : Bool} {x : OpD} (ht : Told l k s xs g) (hk : k < l.length) (hx : x = l[k]) (h3 : x.2.2.size ≤ 300) (k1 : x.1 ≠ 1) (k2 : x.1 ≠ 2) (hte : t = be 2 x.2.2.size) :
    ∃ ys, wtext x.2.2.data.toList xs (!g) = (ys, !g) ∧ Told l (k + 1) (s ++ (mk t ++ x.2.2)) ys g := by
  have hz := size_toList x.2.2
  have eo : okOp x = true := by simp [okOp, k1, k2]
  have ee : enc x = be 2 x.2.2.data.toList.length ++ x.2.2.data.toList := by simp [enc, k1, k2]
  have es : mk t ++ x.2.2 = mk (t ++ x.2.2.data.toList) := by
    apply ByteArray.ext
    apply Array.ext'
    simp [mk]
  rw [es]
  have hlt : t.length = 2 := by rw [hte, be_length]
  have hb := be_length 2 x.2.2.data.toList.length
  cases g
  · refine ⟨xs, by simp [wtext], ?_⟩
    have := ht.step (ok := true) (s := t ++ x.2.2.data.toList) (ys := xs) hk hx h3 eo.symm (by rw [List.length_append]; omega) (fun _ => by rw [ee, hte, hz]) (by omega) (fun e => by cases e)
    exact this
  · refine ⟨xs ++ be 2 x.2.2.data.toList.length ++ x.2.2.data.toList, wtext_ok _ _ (by omega), ?_⟩
    have := ht.step (ok := true) (s := t ++ x.2.2.data.toList) (ys := xs ++ be 2 x.2.2.data.toList.length ++ x.2.2.data.toList) hk hx h3 eo.symm (by rw [List.length_append]; omega) (fun _ => by rw [ee, hte, hz]) (by simp only [List.length_append]; omega) (fun _ => by rw [ee, List.append_assoc])
    exact this
theorem RIn.more {H R : Nat} {w0 w w' : World} {l : List UInt8} {b : Bool} (h : RIn H w0 w R l b) (c : Below w.heap.size w w') : RIn H w0 w' R l b :=
  ⟨(c.block R (lt_of h.1)).trans h.1, h.2.1, h.2.2.1.trans (c.mono h.2.2.2), Nat.le_trans h.2.2.2 c.size⟩
theorem RAt.lop {w w' : World} {R L : Nat} {l : List UInt8} {b : Bool} {x : OpD} (h : RAt w R l b) (hl : LOp w L x) (c : Chg (RS R) w w') : LOp w' L x := by
  refine c.heap hl ?_
  intro e
  have e' : L = R := e
  subst e'
  rw [LOp, h] at hl; simp at hl
section
variable {H R L : Nat} {w0 w : World} {l : List UInt8} {b : Bool} {o : OpD}
theorem mNum {n : Nat} {l' : List UInt8} {b' : Bool} (q : rnum 2 l b = (n, l', b')) (h : RIn H w0 w R l b) (hl : LOp w L o) :
    Calls Try.prog 15 #[.pointer (some ⟨R, 0, none⟩)] w fun e w' => e = .returned (.int .i64 n) ∧ RIn H w0 w' R l' b' ∧ LOp w' L o :=
  (rNum R l b w h.1).mono fun e w' ⟨he, hp⟩ => by rw [q] at he hp; exact ⟨he, RIn.step h.2.1 h.2.2.1 h.2.2.2 hp, h.1.lop hl hp.2⟩
theorem mLong {n : Nat} {l' : List UInt8} {b' : Bool} (q : rnum 4 l b = (n, l', b')) (h : RIn H w0 w R l b) (hl : LOp w L o) :
    Calls Try.prog 20 #[.pointer (some ⟨R, 0, none⟩)] w fun e w' => e = .returned (.int .i64 n) ∧ RIn H w0 w' R l' b' ∧ LOp w' L o :=
  (rLong R l b w h.1).mono fun e w' ⟨he, hp⟩ => by rw [q] at he hp; exact ⟨he, RIn.step h.2.1 h.2.2.1 h.2.2.2 hp, h.1.lop hl hp.2⟩
theorem mText {s l' : List UInt8} {b' : Bool} (q : rtext l b = (s, l', b')) (h : RIn H w0 w R l b) (hl : LOp w L o) :
    Calls Try.prog 16 #[.pointer (some ⟨R, 0, none⟩)] w fun e w' => e = .returned (.string (mk s)) ∧ RIn H w0 w' R l' b' ∧ LOp w' L o :=
  (rText R l b w h.1).mono fun e w' ⟨he, hp⟩ => by rw [q] at he hp; exact ⟨he, RIn.step h.2.1 h.2.2.1 h.2.2.2 hp, h.1.lop hl hp.2⟩
end
theorem mTextS {H R L : Nat} {w0 w : World} {l : List UInt8} {b : Bool} {o : OpD} {s : ByteArray} {l' : List UInt8} {b' : Bool} (q : rtext l b = (s.data.toList, l', b')) (h : RIn H w0 w R l b) (hl : LOp w L o) :
    Calls Try.prog 16 #[.pointer (some ⟨R, 0, none⟩)] w fun e w' => e = .returned (.string s) ∧ RIn H w0 w' R l' b' ∧ LOp w' L o := by
  have := mText q h hl
  rw [mk_of] at this
  exact this
theorem encs_drop {l : List OpD} {k : Nat} (hk : k < l.length) {x : OpD} (hx : x = l[k]) : encs (l.drop k) = enc x ++ encs (l.drop (k + 1)) := by
  rw [List.drop_eq_getElem_cons hk, hx]; rfl
end Go.Proofs.Ytfjdnoonediibaa
