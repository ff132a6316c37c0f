/- A writer of the call's own beside other memory of the call's own. No condition. -/
import Derived.Test.YtofejnhnnmnfpaaDoorRecA
import Derived.Deep.LoopGhost
namespace Go.Proofs.YtofejnhnnmnfpaaDoor.Rc
set_option maxRecDepth 100000
open Go.RowKit
/-- A writer that is not spoilt (its blocks: H and above, none of K). -/
def WK (H : Nat) (K : Nat → Prop) (w0 w : World) (B : Nat) (xs : List UInt8) : Prop :=
  ∃ row, WAt w B row xs false ∧ H ≤ B ∧ ¬ K B ∧ (∀ k, row = some k → H ≤ k ∧ ¬ K k) ∧ Below H w0 w ∧ H ≤ w.heap.size ∧ ∀ k, K k → k < w.heap.size
theorem WAt.keepK {w w' : World} {A : Nat} {r : Option Nat} {xs : List UInt8} {a : Bool} {S : Nat → Prop} (h : WAt w A r xs a) (c : Chg S w w') (h1 : ¬ S A) (h2 : ∀ k, r = some k → ¬ S k) : WAt w' A r xs a := by
  obtain ⟨v, rfl, hb, hown⟩ := h
  exact ⟨v, rfl, c.heap hb h1, c.row hown h2⟩
theorem WAt.ltK {w : World} {A : Nat} {r : Option Nat} {xs : List UInt8} {a : Bool} (h : WAt w A r xs a) : A < w.heap.size ∧ ∀ k, r = some k → k < w.heap.size := by
  obtain ⟨v, rfl, hb, hown⟩ := h
  exact ⟨lt_of hb, fun k hk => (hown.lt k hk).2⟩
section
variable {H B : Nat} {K K' : Nat → Prop} {w0 w w' : World} {xs ys : List UInt8}
theorem WK.was (h : WK H K w0 w B xs) : Below H w0 w ∧ H ≤ w.heap.size := by obtain ⟨_, _, _, _, _, h1, h2, _⟩ := h; exact ⟨h1, h2⟩
theorem WK.kept {S : Nat → Prop} (h : WK H K w0 w B xs) (hc : Chg S w w') (hS : ∀ k, S k → k < w.heap.size → H ≤ k ∧ K k) : WK H K w0 w' B xs := by
  obtain ⟨row, h1, h2, h3, h4, h5, h6, h7⟩ := h
  obtain ⟨l1, l2⟩ := h1.ltK
  exact ⟨row, h1.keepK hc (fun e => h3 (hS _ e l1).2) (fun k hk e => (h4 k hk).2 (hS k e (l2 k hk)).2), h2, h3, h4, h5.trans (hc.below (fun k hk e => (hS k e hk).1) h6), Nat.le_trans h6 hc.size, fun k hk => Nat.lt_of_lt_of_le (h7 k hk) hc.size⟩
theorem WK.more (h : WK H K w0 w B xs) (hb : Below w.heap.size w w') : WK H K w0 w' B xs := h.kept (S := fun _ => False) (Chg.of_below hb) (fun _ h => h.elim)
theorem WK.widen (h : WK H K w0 w B xs) (o : Obj) : WK H (fun k => K k ∨ k = w.heap.size) w0 (w.alloc o) B xs := by
  obtain ⟨row, h1, h2, h3, h4, h5, h6, h7⟩ := h
  obtain ⟨l1, l2⟩ := h1.ltK
  have hc : Chg (fun _ => False) w (w.alloc o) := (Chg.refl _ w).alloc o
  refine ⟨row, h1.keepK hc id (fun _ _ => id), h2, fun e => e.elim h3 (fun e => by omega), fun k hk => ⟨(h4 k hk).1, fun e => e.elim (h4 k hk).2 (fun e => by have := l2 k hk; omega)⟩, h5.trans (hc.below (fun _ _ h => h.elim) h6), by simp; omega, fun k hk => ?_⟩
  rcases hk with hk | hk
  · have := h7 k hk; simp; omega
  · simp; omega
theorem WK.shrink (h : WK H K w0 w B xs) (hK : ∀ k, K' k → K k) : WK H K' w0 w B xs := by
  obtain ⟨row, h1, h2, h3, h4, h5, h6, h7⟩ := h
  exact ⟨row, h1, h2, fun e => h3 (hK _ e), fun k hk => ⟨(h4 k hk).1, fun e => (h4 k hk).2 (hK k e)⟩, h5, h6, fun k hk => h7 k (hK k hk)⟩
theorem WK.step {row : Option Nat} (h1 : WAt w B row xs false) (h2 : H ≤ B) (h3 : ¬ K B) (h4 : ∀ k, row = some k → H ≤ k ∧ ¬ K k) (h5 : Below H w0 w) (h6 : H ≤ w.heap.size) (h7 : ∀ k, K k → k < w.heap.size) (hp : WPost w w' B row ys false) : WK H K w0 w' B ys ∧ Chg (fun k => ¬ K k) w w' := by
  obtain ⟨row', ha, hc, hr⟩ := hp
  refine ⟨⟨row', ha, h2, h3, fun k hk => ?_, h5.trans (hc.below (fun k _ e => ?_) h6), Nat.le_trans h6 hc.size, fun k hk => Nat.lt_of_lt_of_le (h7 k hk) hc.size⟩, hc.mono (fun k _ e => ?_)⟩
  · rcases hr with rfl | hr
    · exact h4 k hk
    · exact ⟨Nat.le_trans h6 (hr k hk), fun e => by have := h7 k e; have := hr k hk; omega⟩
  · rcases e with rfl | e
    · exact h2
    · exact (h4 k e).1
  · rcases e with rfl | e
    · exact h3
    · exact (h4 k e).2
theorem WK.new (hb : Below H w0 w) (hH : H ≤ w.heap.size) (hK : ∀ k, K k → k < w.heap.size) : WK H K w0 (w.alloc (.cells #[.slice none 0 0, .bool false] 112)) w.heap.size [] :=
  ⟨none, ⟨.slice none 0 0, rfl, heap_alloc_new w _, World.ownsRow_nil _ _ _ _⟩, hH, fun e => by have := hK _ e; omega, (fun _ h => by cases h), hb.alloc hH _, by simp; omega, fun k hk => by have := hK k hk; simp; omega⟩
theorem kNum (x : Int) (hx : short x = true) (hs : xs.length ≤ 1000000) (h : WK H K w0 w B xs) :
    Calls Tryd.prog 63 #[.pointer (some ⟨B, 0, none⟩), .int .i64 x] w fun e w' => e = .returned (.pointer (some ⟨B, 0, none⟩)) ∧ WK H K w0 w' B (xs ++ n2 x) ∧ Chg (fun k => ¬ K k) w w' := by
  obtain ⟨row, h1, h2, h3, h4, h5, h6, h7⟩ := h
  have hx' : 0 ≤ x ∧ x ≤ 65535 := by simpa [short] using hx
  have q : wput 2 x xs false = (xs ++ n2 x, false) := wput_yes (by simp; omega)
  refine (wNum B row xs false x w (by omega) h1).mono fun e w' ⟨he, hp⟩ => ?_
  rw [q] at hp
  exact ⟨he, WK.step h1 h2 h3 h4 h5 h6 h7 hp⟩
theorem kLong (x : Int) (hx : long x = true) (hs : xs.length ≤ 1000000) (h : WK H K w0 w B xs) :
    Calls Tryd.prog 64 #[.pointer (some ⟨B, 0, none⟩), .int .i64 x] w fun e w' => e = .returned (.pointer (some ⟨B, 0, none⟩)) ∧ WK H K w0 w' B (xs ++ n4 x) ∧ Chg (fun k => ¬ K k) w w' := by
  obtain ⟨row, h1, h2, h3, h4, h5, h6, h7⟩ := h
  have hx' : 0 ≤ x ∧ x ≤ 4294967295 := by simpa [long] using hx
  have q : wput 4 x xs false = (xs ++ n4 x, false) := wput_yes (by simp; omega)
  refine (wLong B row xs false x w (by omega) h1).mono fun e w' ⟨he, hp⟩ => ?_
  rw [q] at hp
  exact ⟨he, WK.step h1 h2 h3 h4 h5 h6 h7 hp⟩
theorem kText (s : List UInt8) (hl : s.length < 65536) (hs : xs.length ≤ 1000000) (h : WK H K w0 w B xs) :
    Calls Tryd.prog 65 #[.pointer (some ⟨B, 0, none⟩), .string (mk s)] w fun e w' => e = .returned (.pointer (some ⟨B, 0, none⟩)) ∧ WK H K w0 w' B (xs ++ tt s) ∧ Chg (fun k => ¬ K k) w w' := by
  obtain ⟨row, h1, h2, h3, h4, h5, h6, h7⟩ := h
  have hm : (mk s).data.toList = s := by simp [mk]
  have q : wtext (mk s).data.toList xs false = (xs ++ tt s, false) := by rw [hm, wtext_ok s xs hl, tt, List.append_assoc]
  refine (wText B row xs false (mk s) w (by rw [mk_size]; omega) h1).mono fun e w' ⟨he, hp⟩ => ?_
  rw [q] at hp
  exact ⟨he, WK.step h1 h2 h3 h4 h5 h6 h7 hp⟩
theorem kDone (h : WK H K w0 w B xs) : Calls Tryd.prog 68 #[.pointer (some ⟨B, 0, none⟩)] w fun e w' => e = .returned (.tuple #[.string (mk xs), .bool true]) ∧ w = w' := by
  obtain ⟨row, h1, _⟩ := h
  exact wDone_ok B row xs w h1
theorem n2_length (x : Int) : (n2 x).length = 2 := be_length 2 _
theorem n4_length (x : Int) : (n4 x).length = 4 := be_length 4 _
theorem tt_length (s : List UInt8) : (tt s).length = 2 + s.length := by simp [tt, be_length]
theorem n2_len (n : Nat) : n2 (n : Int) = be 2 n := by simp [n2]
end
/-- A record's numbers, written by the function that has the writer's. -/
theorem flat_len (l : List Int) : (l.flatMap n2).length = 2 * l.length := by
  induction l with
  | nil => rfl
  | cons x l ih => rw [List.flatMap_cons, List.length_append, ih, n2_length, List.length_cons]; omega
set_option maxRecDepth 100000 in
set_option maxHeartbeats 1600000 in
theorem numbers_any {H B nb : Nat} {K : Nat → Prop} {w0 w : World} {xs : List UInt8} (v : Value) (l : List Int) (hok : pagesOk l = true) (hv : IsI w0 v l) (hH : H = w0.heap.size) (hs : xs.length ≤ 500000) (h : WK H K w0 w B xs) (hnb : K nb) (hc : w.cell? ⟨nb, 0, none⟩ = some (.func (.func 63) #[.pointer (some ⟨B, 0, none⟩)] #[])) :
    Calls Tryd.prog 66 #[v, .pointer (some ⟨nb, 0, none⟩)] w fun e w' => e = .returned (.tuple #[]) ∧ WK H K w0 w' B (xs ++ nums l) ∧ Chg (fun k => ¬ K k) w w' := by
  subst hH
  have hok' : l.length ≤ 64 ∧ ∀ x ∈ l, short x = true := by simpa [pagesOk] using hok
  obtain ⟨hl, hall⟩ := hok'
  obtain ⟨a, c, rfl, hA⟩ := hv
  have c1 := kNum (l.length : Int) (by simp [short]; omega) (by omega) h
  have hbl := World.block_lt_of_cell? w _ hc
  replace c1 := Lib.hid c1
  replace hA := Lib.hid hA
  replace hall := Lib.hid hall
  clear h
  go_enter Tryd.func66, Tryd.ntmps66
  go_wp2_with fail
  refine c1.out.mono ?_
  rintro e w1 ⟨rfl, h1, hc1⟩
  rw [n2_len] at h1
  have hcc : ∀ x, Chg (fun k => ¬ K k) w x → x.cell? ⟨nb, 0, none⟩ = some (.func (.func 63) #[.pointer (some ⟨B, 0, none⟩)] #[]) := fun x hx => (World.cell?_of_block (w := w) (hx.block nb hbl (fun e => e hnb))).trans hc
  replace hcc := Lib.hid hcc
  replace h1 := Lib.hid h1
  replace hc1 := Lib.hid hc1
  clear c1
  go_wp2
  go_loopg [11] l.length (fun g i wr => ∃ k : Nat, g + k = l.length ∧ i = .int .i64 k ∧ Aside (WK w0.heap.size K w0 wr B (xs ++ be 2 l.length ++ (l.take k).flatMap n2) ∧ Chg (fun k => ¬ K k) w wr))
  case atStart => exact ⟨0, rfl, rfl, by simpa using h1.out, hc1.out⟩
  case round =>
    obtain ⟨k, hk, rfl, hI⟩ := hrel
    obtain ⟨i1, i2⟩ := hI.out
    clear hI h1 hc1
    by_cases hlt : k < l.length
    · obtain ⟨b, o, rfl, hx⟩ := hA.out k hlt
      have hx2 := cell_more i1.was.1 hx
      have hbx := World.block_lt_of_cell? wr _ hx2
      have hn := hcc.out wr i2
      have hbn := World.block_lt_of_cell? wr _ hn
      have hfl := flat_len (l.take k)
      rw [List.length_take, Nat.min_eq_left (by omega)] at hfl
      have cN := kNum l[k] (hall.out _ (List.getElem_mem hlt)) (by simp [be_length, hfl]; omega) i1
      have htk : (l.take (k + 1)).flatMap n2 = (l.take k).flatMap n2 ++ n2 l[k] := by simp only [List.take_succ_eq_append_getElem hlt, List.flatMap_append, List.flatMap_cons, List.flatMap_nil, List.append_nil]
      rw [List.append_assoc, ← htk] at cN
      obtain ⟨y, hy⟩ : ∃ y, y = l[k] := ⟨_, rfl⟩
      rw [← hy] at cN hx2
      replace cN := Lib.hid cN
      replace i2 := Lib.hid i2
      replace hy := Lib.hid hy
      replace htk := Lib.hid htk
      clear i1 hx hfl
      go_wp2_with fail
      refine cN.out.mono ?_
      rintro e w2 ⟨rfl, h2, hc2⟩
      replace h2 := Lib.hid h2
      replace hc2 := Lib.hid (i2.out.trans hc2 (fun _ _ h => h))
      clear cN i2
      go_wp2
      go_roundg (l.length - (k + 1))
      case rel => exact ⟨k + 1, by omega, by go_num, h2.out, hc2.out⟩
      case measure => omega
    · obtain rfl : k = l.length := by omega
      rw [List.take_length] at i1
      have hfin : WK w0.heap.size K w0 wr B (xs ++ nums l) := by
        have := i1
        rw [List.append_assoc] at this
        exact this
      replace hfin := Lib.hid hfin
      replace i2 := Lib.hid i2
      clear i1
      go_wp2
      go_end0
      exact ⟨rfl, hfin.out, i2.out⟩
end Go.Proofs.YtofejnhnnmnfpaaDoor.Rc
