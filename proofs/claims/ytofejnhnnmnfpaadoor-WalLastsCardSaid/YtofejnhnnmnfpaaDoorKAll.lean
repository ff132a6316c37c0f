/- The Writer of package pack in memory, and what its methods do to it. No condition. -/
import Derived.Test.YtofejnhnnmnfpaaDoorProg
import Derived.Test.YtofejnhnnmnfpaaDoorBase
import Derived.Outline
import Derived.Handy
import Derived.Test.YtofejnhnnmnfpaaDoorMk
import Derived.Lib.Strings
namespace Go.Proofs.YtofejnhnnmnfpaaDoor.Rc
set_option maxRecDepth 100000
open Go.RowKit
theorem Tryd.infoU8 : (Tryd.prog.info? 5).map (fun i => (i.zero, i.size, i.bytes)) = some (some (.int .u8 0), 1, 1) := by kernel_rfl

/-- A WRITER IN MEMORY: block B holds the slice (its row: 'row') and the mark. -/
def WAt (w : World) (B : Nat) (row : Option Nat) (xs : List UInt8) (bad : Bool) : Prop :=
  ∃ v, v.ownBlock = row ∧ w.heap[B]? = some (.cells #[v, .bool bad] 112 (0, 0)) ∧ w.ownsRow 0 5 1 v xs.length (bcells xs)

/-- What a method of the Writer may write. -/
def WS (B : Nat) (row : Option Nat) (k : Nat) : Prop := k = B ∨ row = some k
/-- Where the row lies behind it. -/
def RowOk (w : World) (row row' : Option Nat) : Prop := row' = row ∨ ∀ k, row' = some k → w.heap.size ≤ k

/-- WHAT A METHOD OF THE WRITER LEAVES. -/
def WPost (w w' : World) (B : Nat) (row : Option Nat) (xs : List UInt8) (bad : Bool) : Prop :=
  ∃ row', WAt w' B row' xs bad ∧ Chg (WS B row) w w' ∧ RowOk w row row'

theorem WPost.refl {w : World} {B : Nat} {row : Option Nat} {xs : List UInt8} {bad : Bool} (h : WAt w B row xs bad) : WPost w w B row xs bad := ⟨row, h, Chg.refl _ _, .inl rfl⟩
theorem WPost.trans {w w1 w2 : World} {B : Nat} {row row1 : Option Nat} {ys : List UInt8} {b2 : Bool} (c : Chg (WS B row) w w1) (r : RowOk w row row1) (h : WPost w1 w2 B row1 ys b2) : WPost w w2 B row ys b2 := by
  obtain ⟨row2, a2, c2, r2⟩ := h
  refine ⟨row2, a2, c.trans c2 ?_, ?_⟩
  · intro k hk hs
    rcases hs with hs | hs
    · exact .inl hs
    · rcases r with r | r
      · exact .inr (r ▸ hs)
      · have := r k hs; omega
  · rcases r2 with rfl | r2
    · exact r
    · exact .inr fun k hk => Nat.le_trans c.size (r2 k hk)

theorem WPost.of_eq {w w' : World} {B : Nat} {row : Option Nat} {ys zs : List UInt8} {b : Bool} (h : WPost w w' B row ys b) (e : ys = zs) : WPost w w' B row zs b := e ▸ h

/-- BEHIND AN append ONTO THE WRITER's ROW, ahead of the store: what the walk wants of its block. -/
theorem WAt.ahead {wr w1 w' : World} {B : Nat} {v v' : Value} {xs : List UInt8} {n : Nat} {zs : List Value} (hb : wr.heap[B]? = some (.cells #[v, .bool false] 112 (0, 0))) (hown : wr.ownsRow 0 5 1 v xs.length (bcells xs))
    (hc : Chg (fun _ => False) wr w1) (hown' : w'.ownsRow 0 5 1 v' n zs) (hgrow : w1.grownBy w' v.ownBlock) :
    (∃ ao m cap, v' = .slice ao m cap) ∧ w'.heap[B]? = some (.cells #[v, .bool false] 112 (0, 0)) ∧ w'.cell? ⟨B, 0, none⟩ = some v ∧ w'.cell? ⟨B, 1, none⟩ = some (.bool false) ∧ w'.frozen? ⟨B, 0, none⟩ = false := by
  have hB := lt_of hb
  have hne : some B ≠ v.ownBlock := by
    intro e
    obtain ⟨cur, hcur⟩ := own_block hown e.symm
    rw [hb] at hcur
    simp at hcur
  have h' : w'.heap[B]? = some (.cells #[v, .bool false] 112 (0, 0)) := (hgrow.block B (Nat.lt_of_lt_of_le hB hc.size) hne).trans (hc.heap hb (fun h => h))
  obtain ⟨ao, m, cap, hv, _⟩ := own_form hown'
  exact ⟨⟨ao, m, cap, hv⟩, h', cell_of h' rfl, cell_of h' rfl, free_of h'⟩

/-- .. and behind the store. -/
theorem WAt.stored {wr w1 w' : World} {B : Nat} {v v' : Value} {xs ys : List UInt8} {n : Nat} (hb : wr.heap[B]? = some (.cells #[v, .bool false] 112 (0, 0))) (hown : wr.ownsRow 0 5 1 v xs.length (bcells xs))
    (hc : Chg (fun _ => False) wr w1) (hown' : w'.ownsRow 0 5 1 v' n (bcells xs ++ bcells ys)) (hgrow : w1.grownBy w' v.ownBlock) (hrow : v'.ownBlock = v.ownBlock ∨ ∀ k, v'.ownBlock = some k → w1.heap.size ≤ k) :
    WPost wr (w'.setCell ⟨B, 0, none⟩ v') B v.ownBlock (xs ++ ys) false := by
  obtain ⟨_, h', _⟩ := WAt.ahead hb hown hc hown' hgrow
  have hn : n = (xs ++ ys).length := by
    have := hown'.1
    simp only [List.length_append, bcells_length, Nat.mul_one] at this
    simp [this]
  subst hn
  have hne : v'.ownBlock ≠ some B := by
    intro e
    obtain ⟨cur, hcur⟩ := own_block hown' e
    rw [h'] at hcur
    simp at hcur
  refine ⟨v'.ownBlock, ⟨v', rfl, by simpa using heap_setCell (i := 0) h' v', ?_⟩, ((hc.mono (fun _ _ h => h.elim)).grown hgrow (fun k _ hk => .inr hk)).setCell (fun _ => .inl rfl) _, ?_⟩
  · rw [bcells_append]
    exact ownsRow_setCell_other hown' hne v'
  · rcases hrow with h | h
    · exact .inl h
    · exact .inr fun k hk => Nat.le_trans hc.size (h k hk)

/-- The mark is set. -/
theorem WAt.spoil {w : World} {B : Nat} {row : Option Nat} {xs : List UInt8} {b : Bool} (h : WAt w B row xs b) : WPost w (w.setCell ⟨B, 1, none⟩ (.bool true)) B row xs true := by
  obtain ⟨v, rfl, hb, hown⟩ := h
  have hne : v.ownBlock ≠ some B := by
    intro e
    obtain ⟨cur, hcur⟩ := own_block hown e
    rw [hb] at hcur
    simp at hcur
  exact ⟨v.ownBlock, ⟨v, rfl, by simpa using heap_setCell (i := 1) hb (.bool true), ownsRow_setCell_other hown hne _⟩, (Chg.refl _ _).setCell (fun _ => .inl rfl) _, .inl rfl⟩

/-- A number in so many bytes, the most significant one first. -/
def be : Nat → Nat → List UInt8
  | 0, _ => []
  | n + 1, x => UInt8.ofNat (x / 256 ^ n) :: be n x

/-- What writing a number does to the bytes and the mark. -/
def wput (n : Nat) (x : Int) (xs : List UInt8) (b : Bool) : List UInt8 × Bool := if b = true ∨ x < 0 ∨ (256 ^ n : Int) ≤ x then (xs, true) else (xs ++ be n x.toNat, false)
theorem wput_no {n : Nat} {x : Int} {xs : List UInt8} {b : Bool} (h : b = true ∨ x < 0 ∨ (256 ^ n : Int) ≤ x) : wput n x xs b = (xs, true) := if_pos h
theorem wput_yes {n : Nat} {x : Int} {xs : List UInt8} {b : Bool} (h : ¬ (b = true ∨ x < 0 ∨ (256 ^ n : Int) ≤ x)) : wput n x xs b = (xs ++ be n x.toNat, false) := if_neg h

theorem byte_cell (y : Int) (n : Nat) (h : y % 256 = ((n % 256 : Nat) : Int)) : [Value.int .u8 (IntKind.u8.wrap y)] = bcells [UInt8.ofNat n] := by
  simp only [bcells, List.map_cons, List.map_nil, IntKind.wrap_u8, UInt8.toNat_ofNat']
  rw [h]

end Go.Proofs.YtofejnhnnmnfpaaDoor.Rc
/- test -/
namespace Go.Proofs.YtofejnhnnmnfpaaDoor.Rc
set_option maxRecDepth 100000
open Go.RowKit
set_option maxHeartbeats 400000 in
theorem put2_ok (B : Nat) (row : Option Nat) (xs : List UInt8) (x : Nat) (w : World) (h1 : x < 65536) (hs : xs.length + 2 ≤ 140737488355328) (hw : WAt w B row xs false) :
    Calls Tryd.prog 89 #[.pointer (some ⟨B, 0, none⟩), .int .i64 x, .int .i64 2] w fun e w' => e = .returned (.pointer (some ⟨B, 0, none⟩)) ∧ WPost w w' B row (xs ++ be 2 x) false := by
  obtain ⟨i, hi, hz0, hz1, hz2⟩ := info_parts Tryd.infoU8
  have hd0 : decide ((x : Int) < 0) = false := by simp
  have hd1 : decide ((65536 : Int) ≤ x) = false := by simp; omega
  have c1 : w.cell? ⟨B, 1, none⟩ = some (.bool false) := by obtain ⟨v, _, hb, _⟩ := hw; exact cell_of hb rfl
  go_enter Tryd.func89, Tryd.ntmps89
  go_wp2
  go_loopw [2] (fun n wr => ∃ k : Nat, k ≤ 2 ∧ n = .int .i64 ((k : Int) - 1) ∧ WPost w wr B row (xs ++ (be 2 x).take (2 - k)) false) (fun n _ => (intOf n + 1).toNat)
  case atStart => exact ⟨2, Nat.le_refl _, rfl, by simpa using WPost.refl hw⟩
  case round =>
    obtain ⟨k, hk, rfl, row', hwr, hchg, hrk⟩ := hrel
    obtain ⟨v, rfl, hb, hown⟩ := hwr
    have f0 : wr.frozen? ⟨B, 0, none⟩ = false := free_of hb
    have c0 : wr.cell? ⟨B, 0, none⟩ = some v := cell_of hb rfl
    have hB : B < wr.heap.size := lt_of hb
    have hlen : (xs ++ (be 2 x).take (2 - k)).length + 1 ≤ 140737488355328 ∨ k = 0 := by
      by_cases k = 0
      · right; assumption
      · left; simp [be]; omega
    rcases (show k = 0 ∨ k = 1 ∨ k = 2 by omega) with rfl | rfl | rfl
    · go_wp2
      go_ret
      exact ⟨rfl, WPost.trans hchg hrk (WPost.refl ⟨v, rfl, hb, by simpa [be] using hown⟩)⟩
    · have hw0 : IntKind.i64.wrap 0 = 0 := by decide
      go_wp2
      go_region_law (refine step_append_own rfl (.tmp 40) (.tmp 46) 29 rfl 0 5 i (.int .u8 0) 1 1 Tryd.underlying29 hi hz0 hz1 hz2 rfl (by decide) v _ _ (by simp [Act.eval]) (hown.drew.alloc _) ⟨wr.heap.size, 0, none⟩ 1 1 [.int .u8 (IntKind.u8.wrap ((x : Int)))] (by simp [Act.eval]) rfl (by intro j u hj; match j, hj with | 0, hj => (simp at hj; subst hj; simp [Addr.add])) (by intro u hu; simp at hu; subst hu; rfl) (by have := hlen; unfold maxLen; omega) (by have := hlen; omega) (Nat.zero_le _) ?_; intro v' w' hown' hgrow hrow; have hah := WAt.ahead hb hown ((Chg.refl _ _).drew.alloc _) hown' hgrow; obtain ⟨⟨ao', m', cap', rfl⟩, _, hc0', _, hf0'⟩ := hah)
      all_goals
        go_wp2
        go_roundw
        case rel => exact ⟨0, by omega, by simp, WPost.trans hchg hrk ((WAt.stored (ys := [UInt8.ofNat (x / 1)]) hb hown ((Chg.refl _ _).drew.alloc _) (by rw [← byte_cell ((x : Int)) (x / 1) (by omega)]; exact hown') hgrow hrow).of_eq (by simp [be]))⟩
        case measure => simp [intOf]
    · have hw0 : IntKind.i64.wrap 8 = 8 := by decide
      go_wp2
      go_region_law (refine step_append_own rfl (.tmp 40) (.tmp 46) 29 rfl 0 5 i (.int .u8 0) 1 1 Tryd.underlying29 hi hz0 hz1 hz2 rfl (by decide) v _ _ (by simp [Act.eval]) (hown.drew.alloc _) ⟨wr.heap.size, 0, none⟩ 1 1 [.int .u8 (IntKind.u8.wrap ((x : Int) / 256))] (by simp [Act.eval]) rfl (by intro j u hj; match j, hj with | 0, hj => (simp at hj; subst hj; simp [Addr.add])) (by intro u hu; simp at hu; subst hu; rfl) (by have := hlen; unfold maxLen; omega) (by have := hlen; omega) (Nat.zero_le _) ?_; intro v' w' hown' hgrow hrow; have hah := WAt.ahead hb hown ((Chg.refl _ _).drew.alloc _) hown' hgrow; obtain ⟨⟨ao', m', cap', rfl⟩, _, hc0', _, hf0'⟩ := hah)
      all_goals
        go_wp2
        go_roundw
        case rel => exact ⟨1, by omega, by simp, WPost.trans hchg hrk ((WAt.stored (ys := [UInt8.ofNat (x / 256)]) hb hown ((Chg.refl _ _).drew.alloc _) (by rw [← byte_cell ((x : Int) / 256) (x / 256) (by omega)]; exact hown') hgrow hrow).of_eq (by simp [be]))⟩
        case measure => simp [intOf]

set_option maxHeartbeats 400000 in
theorem put4_ok (B : Nat) (row : Option Nat) (xs : List UInt8) (x : Nat) (w : World) (h1 : x < 4294967296) (hs : xs.length + 4 ≤ 140737488355328) (hw : WAt w B row xs false) :
    Calls Tryd.prog 89 #[.pointer (some ⟨B, 0, none⟩), .int .i64 x, .int .i64 4] w fun e w' => e = .returned (.pointer (some ⟨B, 0, none⟩)) ∧ WPost w w' B row (xs ++ be 4 x) false := by
  obtain ⟨i, hi, hz0, hz1, hz2⟩ := info_parts Tryd.infoU8
  have hd0 : decide ((x : Int) < 0) = false := by simp
  have hd1 : decide ((4294967296 : Int) ≤ x) = false := by simp; omega
  have c1 : w.cell? ⟨B, 1, none⟩ = some (.bool false) := by obtain ⟨v, _, hb, _⟩ := hw; exact cell_of hb rfl
  go_enter Tryd.func89, Tryd.ntmps89
  go_wp2
  go_loopw [2] (fun n wr => ∃ k : Nat, k ≤ 4 ∧ n = .int .i64 ((k : Int) - 1) ∧ WPost w wr B row (xs ++ (be 4 x).take (4 - k)) false) (fun n _ => (intOf n + 1).toNat)
  case atStart => exact ⟨4, Nat.le_refl _, rfl, by simpa using WPost.refl hw⟩
  case round =>
    obtain ⟨k, hk, rfl, row', hwr, hchg, hrk⟩ := hrel
    obtain ⟨v, rfl, hb, hown⟩ := hwr
    have f0 : wr.frozen? ⟨B, 0, none⟩ = false := free_of hb
    have c0 : wr.cell? ⟨B, 0, none⟩ = some v := cell_of hb rfl
    have hB : B < wr.heap.size := lt_of hb
    have hlen : (xs ++ (be 4 x).take (4 - k)).length + 1 ≤ 140737488355328 ∨ k = 0 := by
      by_cases k = 0
      · right; assumption
      · left; simp [be]; omega
    rcases (show k = 0 ∨ k = 1 ∨ k = 2 ∨ k = 3 ∨ k = 4 by omega) with rfl | rfl | rfl | rfl | rfl
    · go_wp2
      go_ret
      exact ⟨rfl, WPost.trans hchg hrk (WPost.refl ⟨v, rfl, hb, by simpa [be] using hown⟩)⟩
    · have hw0 : IntKind.i64.wrap 0 = 0 := by decide
      go_wp2
      go_region_law (refine step_append_own rfl (.tmp 40) (.tmp 46) 29 rfl 0 5 i (.int .u8 0) 1 1 Tryd.underlying29 hi hz0 hz1 hz2 rfl (by decide) v _ _ (by simp [Act.eval]) (hown.drew.alloc _) ⟨wr.heap.size, 0, none⟩ 1 1 [.int .u8 (IntKind.u8.wrap ((x : Int)))] (by simp [Act.eval]) rfl (by intro j u hj; match j, hj with | 0, hj => (simp at hj; subst hj; simp [Addr.add])) (by intro u hu; simp at hu; subst hu; rfl) (by have := hlen; unfold maxLen; omega) (by have := hlen; omega) (Nat.zero_le _) ?_; intro v' w' hown' hgrow hrow; have hah := WAt.ahead hb hown ((Chg.refl _ _).drew.alloc _) hown' hgrow; obtain ⟨⟨ao', m', cap', rfl⟩, _, hc0', _, hf0'⟩ := hah)
      all_goals
        go_wp2
        go_roundw
        case rel => exact ⟨0, by omega, by simp, WPost.trans hchg hrk ((WAt.stored (ys := [UInt8.ofNat (x / 1)]) hb hown ((Chg.refl _ _).drew.alloc _) (by rw [← byte_cell ((x : Int)) (x / 1) (by omega)]; exact hown') hgrow hrow).of_eq (by simp [be]))⟩
        case measure => simp [intOf]
    · have hw0 : IntKind.i64.wrap 8 = 8 := by decide
      go_wp2
      go_region_law (refine step_append_own rfl (.tmp 40) (.tmp 46) 29 rfl 0 5 i (.int .u8 0) 1 1 Tryd.underlying29 hi hz0 hz1 hz2 rfl (by decide) v _ _ (by simp [Act.eval]) (hown.drew.alloc _) ⟨wr.heap.size, 0, none⟩ 1 1 [.int .u8 (IntKind.u8.wrap ((x : Int) / 256))] (by simp [Act.eval]) rfl (by intro j u hj; match j, hj with | 0, hj => (simp at hj; subst hj; simp [Addr.add])) (by intro u hu; simp at hu; subst hu; rfl) (by have := hlen; unfold maxLen; omega) (by have := hlen; omega) (Nat.zero_le _) ?_; intro v' w' hown' hgrow hrow; have hah := WAt.ahead hb hown ((Chg.refl _ _).drew.alloc _) hown' hgrow; obtain ⟨⟨ao', m', cap', rfl⟩, _, hc0', _, hf0'⟩ := hah)
      all_goals
        go_wp2
        go_roundw
        case rel => exact ⟨1, by omega, by simp, WPost.trans hchg hrk ((WAt.stored (ys := [UInt8.ofNat (x / 256)]) hb hown ((Chg.refl _ _).drew.alloc _) (by rw [← byte_cell ((x : Int) / 256) (x / 256) (by omega)]; exact hown') hgrow hrow).of_eq (by simp [be]))⟩
        case measure => simp [intOf]
    · have hw0 : IntKind.i64.wrap 16 = 16 := by decide
      go_wp2
      go_region_law (refine step_append_own rfl (.tmp 40) (.tmp 46) 29 rfl 0 5 i (.int .u8 0) 1 1 Tryd.underlying29 hi hz0 hz1 hz2 rfl (by decide) v _ _ (by simp [Act.eval]) (hown.drew.alloc _) ⟨wr.heap.size, 0, none⟩ 1 1 [.int .u8 (IntKind.u8.wrap ((x : Int) / 65536))] (by simp [Act.eval]) rfl (by intro j u hj; match j, hj with | 0, hj => (simp at hj; subst hj; simp [Addr.add])) (by intro u hu; simp at hu; subst hu; rfl) (by have := hlen; unfold maxLen; omega) (by have := hlen; omega) (Nat.zero_le _) ?_; intro v' w' hown' hgrow hrow; have hah := WAt.ahead hb hown ((Chg.refl _ _).drew.alloc _) hown' hgrow; obtain ⟨⟨ao', m', cap', rfl⟩, _, hc0', _, hf0'⟩ := hah)
      all_goals
        go_wp2
        go_roundw
        case rel => exact ⟨2, by omega, by simp, WPost.trans hchg hrk ((WAt.stored (ys := [UInt8.ofNat (x / 65536)]) hb hown ((Chg.refl _ _).drew.alloc _) (by rw [← byte_cell ((x : Int) / 65536) (x / 65536) (by omega)]; exact hown') hgrow hrow).of_eq (by simp [be]))⟩
        case measure => simp [intOf]
    · have hw0 : IntKind.i64.wrap 24 = 24 := by decide
      go_wp2
      go_region_law (refine step_append_own rfl (.tmp 40) (.tmp 46) 29 rfl 0 5 i (.int .u8 0) 1 1 Tryd.underlying29 hi hz0 hz1 hz2 rfl (by decide) v _ _ (by simp [Act.eval]) (hown.drew.alloc _) ⟨wr.heap.size, 0, none⟩ 1 1 [.int .u8 (IntKind.u8.wrap ((x : Int) / 16777216))] (by simp [Act.eval]) rfl (by intro j u hj; match j, hj with | 0, hj => (simp at hj; subst hj; simp [Addr.add])) (by intro u hu; simp at hu; subst hu; rfl) (by have := hlen; unfold maxLen; omega) (by have := hlen; omega) (Nat.zero_le _) ?_; intro v' w' hown' hgrow hrow; have hah := WAt.ahead hb hown ((Chg.refl _ _).drew.alloc _) hown' hgrow; obtain ⟨⟨ao', m', cap', rfl⟩, _, hc0', _, hf0'⟩ := hah)
      all_goals
        go_wp2
        go_roundw
        case rel => exact ⟨3, by omega, by simp, WPost.trans hchg hrk ((WAt.stored (ys := [UInt8.ofNat (x / 16777216)]) hb hown ((Chg.refl _ _).drew.alloc _) (by rw [← byte_cell ((x : Int) / 16777216) (x / 16777216) (by omega)]; exact hown') hgrow hrow).of_eq (by simp [be]))⟩
        case measure => simp [intOf]

theorem put2_bad (B : Nat) (row : Option Nat) (xs : List UInt8) (b : Bool) (x : Int) (w : World) (h1 : b = true ∨ x < 0 ∨ 65536 ≤ x) (hw : WAt w B row xs b) :
    Calls Tryd.prog 89 #[.pointer (some ⟨B, 0, none⟩), .int .i64 x, .int .i64 2] w fun e w' => e = .returned (.pointer (some ⟨B, 0, none⟩)) ∧ WPost w w' B row xs true := by
  have c1 : w.cell? ⟨B, 1, none⟩ = some (.bool b) := by obtain ⟨v, _, hb, _⟩ := hw; exact cell_of hb rfl
  have f1 : w.frozen? ⟨B, 1, none⟩ = false := by obtain ⟨v, _, hb, _⟩ := hw; exact free_of hb
  have fin := WAt.spoil hw
  cases b
  · rcases h1 with h1 | h1 | h1
    · cases h1
    · have hd0 : decide (x < 0) = true := by simpa using h1
      have hd1 : decide ((65536 : Int) ≤ x) = false := by simp; omega
      go_enter Tryd.func89, Tryd.ntmps89
      go_wp2
      go_ret
      exact ⟨rfl, fin⟩
    · have hd0 : decide (x < 0) = false := by simp; omega
      have hd1 : decide ((65536 : Int) ≤ x) = true := by simpa using h1
      go_enter Tryd.func89, Tryd.ntmps89
      go_wp2
      go_ret
      exact ⟨rfl, fin⟩
  · go_enter Tryd.func89, Tryd.ntmps89
    go_wp2
    go_ret
    exact ⟨rfl, fin⟩

theorem put4_bad (B : Nat) (row : Option Nat) (xs : List UInt8) (b : Bool) (x : Int) (w : World) (h1 : b = true ∨ x < 0 ∨ 4294967296 ≤ x) (hw : WAt w B row xs b) :
    Calls Tryd.prog 89 #[.pointer (some ⟨B, 0, none⟩), .int .i64 x, .int .i64 4] w fun e w' => e = .returned (.pointer (some ⟨B, 0, none⟩)) ∧ WPost w w' B row xs true := by
  have c1 : w.cell? ⟨B, 1, none⟩ = some (.bool b) := by obtain ⟨v, _, hb, _⟩ := hw; exact cell_of hb rfl
  have f1 : w.frozen? ⟨B, 1, none⟩ = false := by obtain ⟨v, _, hb, _⟩ := hw; exact free_of hb
  have fin := WAt.spoil hw
  cases b
  · rcases h1 with h1 | h1 | h1
    · cases h1
    · have hd0 : decide (x < 0) = true := by simpa using h1
      have hd1 : decide ((4294967296 : Int) ≤ x) = false := by simp; omega
      go_enter Tryd.func89, Tryd.ntmps89
      go_wp2
      go_ret
      exact ⟨rfl, fin⟩
    · have hd0 : decide (x < 0) = false := by simp; omega
      have hd1 : decide ((4294967296 : Int) ≤ x) = true := by simpa using h1
      go_enter Tryd.func89, Tryd.ntmps89
      go_wp2
      go_ret
      exact ⟨rfl, fin⟩
  · go_enter Tryd.func89, Tryd.ntmps89
    go_wp2
    go_ret
    exact ⟨rfl, fin⟩

theorem put2_any (B : Nat) (row : Option Nat) (xs : List UInt8) (b : Bool) (x : Int) (w : World) (hs : xs.length + 2 ≤ 140737488355328) (hw : WAt w B row xs b) :
    Calls Tryd.prog 89 #[.pointer (some ⟨B, 0, none⟩), .int .i64 x, .int .i64 2] w fun e w' => e = .returned (.pointer (some ⟨B, 0, none⟩)) ∧ WPost w w' B row (wput 2 x xs b).1 (wput 2 x xs b).2 := by
  by_cases h : b = true ∨ x < 0 ∨ (256 ^ 2 : Int) ≤ x
  · rw [wput_no h]
    exact put2_bad B row xs b x w (by simpa using h) hw
  · obtain ⟨hb, h0, h1⟩ : b = false ∧ 0 ≤ x ∧ x < 65536 := by
      refine ⟨?_, by omega, by omega⟩
      cases b
      · rfl
      · simp at h
    subst hb
    rw [wput_yes h]
    obtain ⟨x, rfl⟩ := Int.eq_ofNat_of_zero_le h0
    exact put2_ok B row xs x w (by omega) hs hw

theorem put4_any (B : Nat) (row : Option Nat) (xs : List UInt8) (b : Bool) (x : Int) (w : World) (hs : xs.length + 4 ≤ 140737488355328) (hw : WAt w B row xs b) :
    Calls Tryd.prog 89 #[.pointer (some ⟨B, 0, none⟩), .int .i64 x, .int .i64 4] w fun e w' => e = .returned (.pointer (some ⟨B, 0, none⟩)) ∧ WPost w w' B row (wput 4 x xs b).1 (wput 4 x xs b).2 := by
  by_cases h : b = true ∨ x < 0 ∨ (256 ^ 4 : Int) ≤ x
  · rw [wput_no h]
    exact put4_bad B row xs b x w (by simpa using h) hw
  · obtain ⟨hb, h0, h1⟩ : b = false ∧ 0 ≤ x ∧ x < 4294967296 := by
      refine ⟨?_, by omega, by omega⟩
      cases b
      · rfl
      · simp at h
    subst hb
    rw [wput_yes h]
    obtain ⟨x, rfl⟩ := Int.eq_ofNat_of_zero_le h0
    exact put4_ok B row xs x w (by omega) hs hw

theorem wNum (B : Nat) (row : Option Nat) (xs : List UInt8) (b : Bool) (x : Int) (w : World) (hs : xs.length + 2 ≤ 140737488355328) (hw : WAt w B row xs b) :
    Calls Tryd.prog 63 #[.pointer (some ⟨B, 0, none⟩), .int .i64 x] w fun e w' => e = .returned (.pointer (some ⟨B, 0, none⟩)) ∧ WPost w w' B row (wput 2 x xs b).1 (wput 2 x xs b).2 := by
  have C := Lib.hid (put2_any B row xs b x w hs hw)
  go_enter Tryd.func63, Tryd.ntmps63
  go_wp2_with (go_at_call 89; refine C.out.mono ?_; rintro e w' ⟨rfl, hp⟩)
  go_ret
  exact ⟨rfl, hp⟩

theorem wLong (B : Nat) (row : Option Nat) (xs : List UInt8) (b : Bool) (x : Int) (w : World) (hs : xs.length + 4 ≤ 140737488355328) (hw : WAt w B row xs b) :
    Calls Tryd.prog 64 #[.pointer (some ⟨B, 0, none⟩), .int .i64 x] w fun e w' => e = .returned (.pointer (some ⟨B, 0, none⟩)) ∧ WPost w w' B row (wput 4 x xs b).1 (wput 4 x xs b).2 := by
  have C := Lib.hid (put4_any B row xs b x w hs hw)
  go_enter Tryd.func64, Tryd.ntmps64
  go_wp2_with (go_at_call 89; refine C.out.mono ?_; rintro e w' ⟨rfl, hp⟩)
  go_ret
  exact ⟨rfl, hp⟩

end Go.Proofs.YtofejnhnnmnfpaaDoor.Rc
/- test -/
namespace Go.Proofs.YtofejnhnnmnfpaaDoor.Rc
set_option maxRecDepth 100000
open Go.RowKit

/-- What writing a text does to the bytes and the mark. -/
def wtext (s : List UInt8) (xs : List UInt8) (b : Bool) : List UInt8 × Bool := if b = true ∨ 65536 ≤ s.length then (xs, true) else (xs ++ be 2 s.length ++ s, false)

set_option maxHeartbeats 400000 in
theorem wText (B : Nat) (row : Option Nat) (xs : List UInt8) (b : Bool) (s : ByteArray) (w : World) (hs : xs.length + 2 + s.size ≤ 140737488355328) (hw : WAt w B row xs b) :
    Calls Tryd.prog 65 #[.pointer (some ⟨B, 0, none⟩), .string s] w fun e w' => e = .returned (.pointer (some ⟨B, 0, none⟩)) ∧ WPost w w' B row (wtext s.data.toList xs b).1 (wtext s.data.toList xs b).2 := by
  have hsz := size_toList s
  have C := Lib.hid (wNum B row xs b s.size w (by omega) hw)
  by_cases h : b = true ∨ 65536 ≤ s.data.toList.length
  · have hc : wput 2 s.size xs b = (xs, true) := wput_no (by rcases h with h | h; exact .inl h; right; right; omega)
    rw [hc] at C
    have ht : wtext s.data.toList xs b = (xs, true) := if_pos h
    rw [ht]
    clear hc ht h
    go_enter Tryd.func65, Tryd.ntmps65
    go_wp2_with fail
    refine C.out.mono ?_
    rintro e w1 ⟨rfl, row1, ⟨v, rfl, hb, hown⟩, hchg, hrk⟩
    have c1 : w1.cell? ⟨B, 1, none⟩ = some (.bool true) := cell_of hb rfl
    have fin : WPost w w1 B row xs true := ⟨v.ownBlock, ⟨v, rfl, hb, hown⟩, hchg, hrk⟩
    clear hchg hrk hown hw
    go_wp2
    go_ret
    exact ⟨rfl, fin⟩
  · obtain ⟨i, hi, hz0, hz1, hz2⟩ := info_parts Tryd.infoU8
    have hc : wput 2 s.size xs b = (xs ++ be 2 s.size, false) := by
      rw [wput_yes]
      · simp
      · intro h'
        rcases h' with h' | h' | h'
        · exact h (.inl h')
        · omega
        · exact h (.inr (by omega))
    rw [hc] at C
    have ht : wtext s.data.toList xs b = (xs ++ be 2 s.size ++ s.data.toList, false) := by rw [← hsz]; exact if_neg h
    rw [ht]
    clear hc ht
    go_enter Tryd.func65, Tryd.ntmps65
    go_wp2_with fail
    refine C.out.mono ?_
    rintro e w1 ⟨rfl, row1, ⟨v, rfl, hb, hown⟩, hchg, hrk⟩
    have c1 : w1.cell? ⟨B, 1, none⟩ = some (.bool false) := cell_of hb rfl
    have c0 : w1.cell? ⟨B, 0, none⟩ = some v := cell_of hb rfl
    have hl : (xs ++ be 2 s.size).length = xs.length + 2 := by simp [be]
    have HH := Lib.hid hl
    clear hl
    go_wp2_with (at_builtin; refine wpList_append_own_string' rfl (.tmp 25) (.tmp 26) 29 9 rfl 0 5 i Tryd.underlying29 Tryd.underlying9 hi hz0 hz1 hz2 v _ _ rfl hown s rfl (by have := HH.out; unfold maxLen; omega) (by have := HH.out; omega) (Nat.zero_le _) ?_; intro v' w' hown' hgrow hrow; obtain ⟨⟨ao', m', cap', rfl⟩, _, hc0', _, hf0'⟩ := WAt.ahead hb hown (Chg.refl _ _) hown' hgrow; have fin := WPost.trans hchg hrk (WAt.stored (ys := s.data.toList) hb hown (Chg.refl _ _) hown' hgrow hrow); clear hown' hgrow hrow)
    go_ret
    exact ⟨rfl, fin⟩
theorem wDone_ok (B : Nat) (row : Option Nat) (xs : List UInt8) (w : World) (hw : WAt w B row xs false) :
    Calls Tryd.prog 68 #[.pointer (some ⟨B, 0, none⟩)] w fun e w' => e = .returned (.tuple #[.string ⟨xs.toArray⟩, .bool true]) ∧ w = w' := by
  obtain ⟨v, rfl, hb, hown⟩ := hw
  have c1 : w.cell? ⟨B, 1, none⟩ = some (.bool false) := cell_of hb rfl
  have c0 : w.cell? ⟨B, 0, none⟩ = some v := cell_of hb rfl
  have hconv := run_string_own (P := Tryd.prog) 29 9 Tryd.underlying29 Tryd.underlying5 Tryd.underlying9 hown
  go_enter Tryd.func68, Tryd.ntmps68
  go_wp2
  go_ret2
  exact ⟨rfl, rfl⟩
theorem wDone_bad (B : Nat) (row : Option Nat) (xs : List UInt8) (w : World) (hw : WAt w B row xs true) :
    Calls Tryd.prog 68 #[.pointer (some ⟨B, 0, none⟩)] w fun e w' => e = .returned (.tuple #[.string ByteArray.empty, .bool false]) ∧ w = w' := by
  obtain ⟨v, rfl, hb, hown⟩ := hw
  have c1 : w.cell? ⟨B, 1, none⟩ = some (.bool true) := cell_of hb rfl
  go_enter Tryd.func68, Tryd.ntmps68
  go_wp2
  go_ret2
  exact ⟨rfl, rfl⟩
end Go.Proofs.YtofejnhnnmnfpaaDoor.Rc
/- The Reader of package pack in memory, and what its methods do to it. No condition. -/
namespace Go.Proofs.YtofejnhnnmnfpaaDoor.Rc
set_option maxRecDepth 100000
open Go.RowKit

theorem mk_size (l : List UInt8) : (mk l).size = l.length := by simp [mk, ByteArray.size]
theorem mk_list (l : List UInt8) : (mk l).data.toList = l := by simp [mk]
theorem mk_of (s : ByteArray) : mk s.data.toList = s := by simp [mk]
@[go_sem] theorem mk_toList (l : List UInt8) : (mk l).toList = l := by rw [Lib.toList_data, mk_list]
theorem mk_take (l : List UInt8) (n : Nat) : (mk l).extract 0 n = mk (l.take n) := by
  apply ByteArray.ext
  apply Array.ext'
  simp [mk]
theorem mk_drop (l : List UInt8) (n : Nat) (_ : n ≤ l.length) : (mk l).extract n l.length = mk (l.drop n) := by
  apply ByteArray.ext
  apply Array.ext'
  simp [mk]
  rw [List.take_of_length_le (by simp)]

/-- What a method of the Reader may write. -/
def RS (R : Nat) (k : Nat) : Prop := k = R
/-- A READER IN MEMORY. -/
def RAt (w : World) (R : Nat) (l : List UInt8) (bad : Bool) : Prop := w.heap[R]? = some (.cells #[.string (mk l), .bool bad] 135 (0, 0))
/-- WHAT A METHOD OF THE READER LEAVES. -/
def RPost (w w' : World) (R : Nat) (l : List UInt8) (bad : Bool) : Prop := RAt w' R l bad ∧ Chg (RS R) w w'

theorem RAt.set {w : World} {R : Nat} {l l' : List UInt8} {b : Bool} (h : RAt w R l b) : RAt (w.setCell ⟨R, 0, none⟩ (.string (mk l'))) R l' b := by
  have := heap_setCell (i := 0) h (.string (mk l'))
  simpa [RAt] using this
theorem RAt.spoil {w : World} {R : Nat} {l : List UInt8} {b : Bool} (h : RAt w R l b) : RPost w (w.setCell ⟨R, 1, none⟩ (.bool true)) R l true := by
  have := heap_setCell (i := 1) h (.bool true)
  exact ⟨by simpa [RAt] using this, (Chg.refl (RS R) w).setCell (a := ⟨R, 1, none⟩) (fun _ => rfl) _⟩

theorem take_bad (R : Nat) (l : List UInt8) (b : Bool) (n : Int) (w : World) (h : b = true ∨ (l.length : Int) < n) (hr : RAt w R l b) :
    Calls Tryd.prog 81 #[.pointer (some ⟨R, 0, none⟩), .int .i64 n] w fun e w' => e = .returned (.string (mk [])) ∧ RPost w w' R l true := by
  have c0 : w.cell? ⟨R, 0, none⟩ = some (.string (mk l)) := cell_of hr rfl
  have c1 : w.cell? ⟨R, 1, none⟩ = some (.bool b) := cell_of hr rfl
  have f1 : w.frozen? ⟨R, 1, none⟩ = false := free_of hr
  have fin := hr.spoil
  have hsz := mk_size l
  cases b
  · have hd : decide (((mk l).size : Int) < n) = true := by
      rw [hsz]
      rcases h with h | h
      · cases h
      · simpa using h
    clear hsz h
    go_enter Tryd.func81, Tryd.ntmps81
    go_wp2
    go_ret
    exact ⟨rfl, fin⟩
  · clear h hsz
    go_enter Tryd.func81, Tryd.ntmps81
    go_wp2
    go_ret
    exact ⟨rfl, fin⟩

theorem take_ok (R : Nat) (l : List UInt8) (n : Nat) (w : World) (h : n ≤ l.length) (hr : RAt w R l false) :
    Calls Tryd.prog 81 #[.pointer (some ⟨R, 0, none⟩), .int .i64 n] w fun e w' => e = .returned (.string (mk (l.take n))) ∧ RPost w w' R (l.drop n) false := by
  have c0 : w.cell? ⟨R, 0, none⟩ = some (.string (mk l)) := cell_of hr rfl
  have c1 : w.cell? ⟨R, 1, none⟩ = some (.bool false) := cell_of hr rfl
  have f0 : w.frozen? ⟨R, 0, none⟩ = false := free_of hr
  have hsz := mk_size l
  have hle : n ≤ (mk l).size := by omega
  have hd : decide (((mk l).size : Int) < n) = false := by simp; omega
  have fin : RPost w (w.setCell ⟨R, 0, none⟩ (.string (mk (l.drop n)))) R (l.drop n) false := ⟨hr.set, (Chg.refl (RS R) w).setCell (a := ⟨R, 0, none⟩) (fun _ => rfl) _⟩
  have H := Lib.hid hsz
  clear hsz
  go_enter Tryd.func81, Tryd.ntmps81
  go_wp2
  go_ret
  rw [H.out, mk_drop l n h, mk_take]
  exact ⟨rfl, fin⟩

/-- The number of big bytes. -/
def val (l : List UInt8) : Nat := l.foldl (fun v b => v * 256 + b.toNat) 0

theorem join8 (v b : Int) (h0 : 0 ≤ v) (h1 : v < 16777216) (h2 : 0 ≤ b) (h3 : b < 256) : bits .or .i64 (v * 256) b = v * 256 + b :=
  bits_join .i64 62 (by decide) (fun n a b => by rw [IntKind.wrap_i64]; omega) 8 (v * 256) b (by omega) (by omega) (by omega) h2 (by omega) (by omega)
theorem val_snoc (l : List UInt8) (b : UInt8) : val (l ++ [b]) = val l * 256 + b.toNat := by simp [val]
theorem val_lt' (l : List UInt8) : ∀ v, l.foldl (fun v b => v * 256 + b.toNat) v < (v + 1) * 256 ^ l.length := by
  induction l with
  | nil => intro v; simp
  | cons b l ih =>
    intro v
    have h := ih (v * 256 + b.toNat)
    have hb := b.toNat_lt
    have h2 : (v * 256 + b.toNat + 1) * 256 ^ l.length ≤ (v + 1) * 256 * 256 ^ l.length := Nat.mul_le_mul_right _ (by omega)
    rw [List.foldl_cons, List.length_cons, Nat.pow_succ, Nat.mul_comm (256 ^ l.length) 256, ← Nat.mul_assoc]
    omega
theorem val_lt (l : List UInt8) : val l < 256 ^ l.length := by have := val_lt' l 0; simpa [val] using this
theorem val_take (l : List UInt8) (k : Nat) (h : k < (mk l).size) : val (l.take (k + 1)) = val (l.take k) * 256 + ((mk l)[k]).toNat := by
  have h' : k < l.length := by rw [← mk_size]; exact h
  rw [List.take_succ_eq_append_getElem h', val_snoc]
  congr 2
theorem val_take_lt (l : List UInt8) (k : Nat) (h : k ≤ 3) : val (l.take k) < 16777216 := by
  have h1 := val_lt (l.take k)
  have h2 : 256 ^ (l.take k).length ≤ 256 ^ 3 := Nat.pow_le_pow_right (by omega) (by simp; omega)
  omega

theorem get_ok (R : Nat) (l : List UInt8) (n : Nat) (w : World) (hn : n ≤ 4) (h : n ≤ l.length) (hr : RAt w R l false) :
    Calls Tryd.prog 80 #[.pointer (some ⟨R, 0, none⟩), .int .i64 n] w fun e w' => e = .returned (.int .i64 (val (l.take n))) ∧ RPost w w' R (l.drop n) false := by
  have C := Lib.hid (take_ok R l n w h hr)
  have hsz := mk_size (l.take n)
  have hmin : (l.take n).length = n := by simp; omega
  rw [hmin] at hsz
  have H := Lib.hid hsz
  have hle : (mk (l.take n)).size ≤ 4 := by omega
  clear hmin hsz
  go_enter Tryd.func80, Tryd.ntmps80
  go_wp2_with (go_at_call 81; refine C.out.mono ?_; rintro e w1 ⟨rfl, hp⟩)
  go_loop [5, 13] (fun v i => ∃ k : Nat, k ≤ n ∧ i = .int .i64 k ∧ v = .int .i64 (val ((l.take n).take k))) (fun _ i => n - (intOf i).toNat)
  case atStart => exact ⟨0, Nat.zero_le _, rfl, rfl⟩
  case round =>
    obtain ⟨k, hk, rfl, rfl⟩ := hrel
    obtain ⟨v, hv⟩ : ∃ v, v = val ((l.take n).take k) := ⟨_, rfl⟩
    have hb : k < (mk (l.take n)).size → v < 16777216 := fun hlt => by rw [hv]; exact val_take_lt _ _ (by omega)
    have hs : ∀ hlt : k < (mk (l.take n)).size, val ((l.take n).take (k + 1)) = v * 256 + ((mk (l.take n))[k]).toNat := fun hlt => by rw [hv]; exact val_take _ _ hlt
    rw [← hv]
    have HV := Lib.hid hv
    have HS := Lib.hid hs
    clear hv hs
    by_cases hlt : k < (mk (l.take n)).size
    · have hb' := hb hlt
      clear hb
      go_wp2
      go_round
      case rel =>
        refine ⟨k + 1, by have := H.out; omega, by go_num, ?_⟩
        rw [HS.out hlt]
        have h255 := ((mk (l.take n))[k]).toNat_lt
        rw [IntWalk.wrap64_in _ (by omega), join8 _ _ (by omega) (by omega) (by omega) (by omega)]
        simp
      case measure => simp [intOf]; have := H.out; omega
    · go_wp2
      go_ret
      have e : k = n := by have := H.out; omega
      subst e
      rw [HV.out, List.take_take, Nat.min_self]
      exact ⟨rfl, hp⟩
end Go.Proofs.YtofejnhnnmnfpaaDoor.Rc
/- What the Reader's exported methods answer, and leave. No condition. -/
namespace Go.Proofs.YtofejnhnnmnfpaaDoor.Rc
set_option maxRecDepth 100000
open Go.RowKit

theorem take_nil (n : Int) (w : World) : Calls Tryd.prog 81 #[.pointer none, .int .i64 n] w fun e w' => e = .returned (.string (mk [])) ∧ w = w' := by
  go_enter Tryd.func81, Tryd.ntmps81
  go_wp2
  go_ret
  exact ⟨rfl, rfl⟩
theorem get_nil (n : Int) (w : World) : Calls Tryd.prog 80 #[.pointer none, .int .i64 n] w fun e w' => e = .returned (.int .i64 0) ∧ w = w' := by
  have h0 : (mk []).size = 0 := rfl
  go_enter Tryd.func80, Tryd.ntmps80
  go_wp2_with (go_at_call 81; refine (take_nil _ _).mono ?_; rintro e w1 ⟨rfl, rfl⟩)
  go_rounds 1
  go_ret
  exact ⟨rfl, rfl⟩
theorem get_bad (R : Nat) (l : List UInt8) (b : Bool) (n : Int) (w : World) (h : b = true ∨ (l.length : Int) < n) (hr : RAt w R l b) :
    Calls Tryd.prog 80 #[.pointer (some ⟨R, 0, none⟩), .int .i64 n] w fun e w' => e = .returned (.int .i64 0) ∧ RPost w w' R l true := by
  have C := Lib.hid (take_bad R l b n w h hr)
  have h0 : (mk []).size = 0 := rfl
  go_enter Tryd.func80, Tryd.ntmps80
  go_wp2_with (go_at_call 81; refine C.out.mono ?_; rintro e w1 ⟨rfl, hp⟩)
  go_rounds 1
  go_ret
  exact ⟨rfl, hp⟩

/-- What is read: a number of n bytes; a text; what is left, and the mark. -/
def rnum (n : Nat) (l : List UInt8) (b : Bool) : Nat × List UInt8 × Bool := if b = true ∨ l.length < n then (0, l, true) else (val (l.take n), l.drop n, false)
def rcut (n : Nat) (l : List UInt8) (b : Bool) : List UInt8 × List UInt8 × Bool := if b = true ∨ l.length < n then ([], l, true) else (l.take n, l.drop n, false)
def rtext (l : List UInt8) (b : Bool) : List UInt8 × List UInt8 × Bool := rcut (rnum 2 l b).1 (rnum 2 l b).2.1 (rnum 2 l b).2.2

theorem get_any (R : Nat) (l : List UInt8) (b : Bool) (n : Nat) (w : World) (hn : n ≤ 4) (hr : RAt w R l b) :
    Calls Tryd.prog 80 #[.pointer (some ⟨R, 0, none⟩), .int .i64 n] w fun e w' => e = .returned (.int .i64 (rnum n l b).1) ∧ RPost w w' R (rnum n l b).2.1 (rnum n l b).2.2 := by
  by_cases h : b = true ∨ l.length < n
  · rw [show rnum n l b = (0, l, true) from if_pos h]
    exact get_bad R l b n w (by rcases h with h | h; exact .inl h; right; omega) hr
  · rw [show rnum n l b = (val (l.take n), l.drop n, false) from if_neg h]
    cases b
    · exact get_ok R l n w hn (by simp at h; exact h) hr
    · simp at h
theorem take_any (R : Nat) (l : List UInt8) (b : Bool) (n : Nat) (w : World) (hr : RAt w R l b) :
    Calls Tryd.prog 81 #[.pointer (some ⟨R, 0, none⟩), .int .i64 n] w fun e w' => e = .returned (.string (mk (rcut n l b).1)) ∧ RPost w w' R (rcut n l b).2.1 (rcut n l b).2.2 := by
  by_cases h : b = true ∨ l.length < n
  · rw [show rcut n l b = ([], l, true) from if_pos h]
    exact take_bad R l b n w (by rcases h with h | h; exact .inl h; right; omega) hr
  · rw [show rcut n l b = (l.take n, l.drop n, false) from if_neg h]
    cases b
    · exact take_ok R l n w (by simp at h; exact h) hr
    · simp at h

theorem rNum (R : Nat) (l : List UInt8) (b : Bool) (w : World) (hr : RAt w R l b) :
    Calls Tryd.prog 57 #[.pointer (some ⟨R, 0, none⟩)] w fun e w' => e = .returned (.int .i64 (rnum 2 l b).1) ∧ RPost w w' R (rnum 2 l b).2.1 (rnum 2 l b).2.2 := by
  have C := Lib.hid (get_any R l b 2 w (by omega) hr)
  go_enter Tryd.func57, Tryd.ntmps57
  go_wp2_with (go_at_call 80; refine C.out.mono ?_; rintro e w' ⟨rfl, hp⟩)
  go_ret
  exact ⟨rfl, hp⟩
theorem rLong (R : Nat) (l : List UInt8) (b : Bool) (w : World) (hr : RAt w R l b) :
    Calls Tryd.prog 58 #[.pointer (some ⟨R, 0, none⟩)] w fun e w' => e = .returned (.int .i64 (rnum 4 l b).1) ∧ RPost w w' R (rnum 4 l b).2.1 (rnum 4 l b).2.2 := by
  have C := Lib.hid (get_any R l b 4 w (by omega) hr)
  go_enter Tryd.func58, Tryd.ntmps58
  go_wp2_with (go_at_call 80; refine C.out.mono ?_; rintro e w' ⟨rfl, hp⟩)
  go_ret
  exact ⟨rfl, hp⟩
theorem rText (R : Nat) (l : List UInt8) (b : Bool) (w : World) (hr : RAt w R l b) :
    Calls Tryd.prog 59 #[.pointer (some ⟨R, 0, none⟩)] w fun e w' => e = .returned (.string (mk (rtext l b).1)) ∧ RPost w w' R (rtext l b).2.1 (rtext l b).2.2 := by
  have C := Lib.hid (rNum R l b w hr)
  have D := Lib.hid (fun w1 => take_any R (rnum 2 l b).2.1 (rnum 2 l b).2.2 (rnum 2 l b).1 w1)
  rw [show rtext l b = rcut (rnum 2 l b).1 (rnum 2 l b).2.1 (rnum 2 l b).2.2 from rfl]
  generalize rcut (rnum 2 l b).1 (rnum 2 l b).2.1 (rnum 2 l b).2.2 = z at *
  generalize rnum 2 l b = y at *
  go_enter Tryd.func59, Tryd.ntmps59
  go_wp2_with fail
  refine C.out.mono ?_
  rintro e w1 ⟨rfl, hp, hc⟩
  go_wp2_with fail
  refine (D.out w1 hp).mono ?_
  rintro e w2 ⟨rfl, hp2, hc2⟩
  go_wp2
  go_ret
  exact ⟨rfl, hp2, hc.trans hc2 (fun _ _ h => h)⟩
theorem rBad (R : Nat) (l : List UInt8) (b : Bool) (w : World) (hr : RAt w R l b) :
    Calls Tryd.prog 61 #[.pointer (some ⟨R, 0, none⟩)] w fun e w' => e = .returned (.bool b) ∧ w = w' := by
  have c1 : w.cell? ⟨R, 1, none⟩ = some (.bool b) := cell_of hr rfl
  go_enter Tryd.func61, Tryd.ntmps61
  go_wp2
  go_ret
  exact ⟨rfl, rfl⟩
theorem rFrom (l : List UInt8) (w : World) :
    Calls Tryd.prog 56 #[.string (mk l)] w fun e w' => e = .returned (.pointer (some ⟨w.heap.size, 0, none⟩)) ∧ w.alloc (.cells #[.string (mk l), .bool false] 135) = w' := by
  go_enter Tryd.func56, Tryd.ntmps56
  go_wp2
  go_ret
  exact ⟨rfl, rfl⟩
end Go.Proofs.YtofejnhnnmnfpaaDoor.Rc
/- Plain facts on numbers and texts as bytes: what was written is read. No condition. -/
namespace Go.Proofs.YtofejnhnnmnfpaaDoor.Rc
set_option maxRecDepth 100000
open Go.RowKit

theorem be_length : ∀ n x, (be n x).length = n
  | 0, _ => rfl
  | n + 1, x => by rw [be, List.length_cons, be_length n x]
theorem val_be2 (x : Nat) (h : x < 65536) : val (be 2 x) = x := by
  simp [val, be]; omega
theorem val_be4 (x : Nat) (h : x < 4294967296) : val (be 4 x) = x := by
  simp [val, be]; omega
theorem rnum2 (x : Nat) (l : List UInt8) (h : x < 65536) : rnum 2 (be 2 x ++ l) false = (x, l, false) := by
  have hl : (be 2 x).length = 2 := be_length 2 x
  have : ¬ (false = true ∨ (be 2 x ++ l).length < 2) := by rw [List.length_append, hl]; simp
  rw [rnum, if_neg this, List.take_append_of_le_length (by omega), List.take_of_length_le (by omega), val_be2 x h, List.drop_append_of_le_length (by omega), List.drop_of_length_le (by omega)]
  rfl
theorem rnum4 (x : Nat) (l : List UInt8) (h : x < 4294967296) : rnum 4 (be 4 x ++ l) false = (x, l, false) := by
  have hl : (be 4 x).length = 4 := be_length 4 x
  have : ¬ (false = true ∨ (be 4 x ++ l).length < 4) := by rw [List.length_append, hl]; simp
  rw [rnum, if_neg this, List.take_append_of_le_length (by omega), List.take_of_length_le (by omega), val_be4 x h, List.drop_append_of_le_length (by omega), List.drop_of_length_le (by omega)]
  rfl
theorem rtext_be (s l : List UInt8) (h : s.length < 65536) : rtext (be 2 s.length ++ (s ++ l)) false = (s, l, false) := by
  rw [rtext, rnum2 _ _ h]
  have : ¬ (false = true ∨ (s ++ l).length < s.length) := by rw [List.length_append]; simp
  rw [rcut, if_neg this]
  simp
theorem rtext_bad (l : List UInt8) : rtext l true = ([], l, true) := by simp [rtext, rnum, rcut]
theorem rnum_bad (n : Nat) (l : List UInt8) : rnum n l true = (0, l, true) := by simp [rnum]
theorem rnum_short (n : Nat) (l : List UInt8) (h : l.length < n) : rnum n l false = (0, l, true) := by simp [rnum, h]
theorem rtext_short (l : List UInt8) (h : l.length < 2) : rtext l false = ([], l, true) := by
  rw [rtext, rnum_short 2 l h]
  simp [rcut]
theorem wput2 (x : Nat) (xs : List UInt8) (h : x < 65536) : wput 2 x xs false = (xs ++ be 2 x, false) := by
  rw [wput_yes (by simp; omega)]; simp
theorem wput4 (x : Nat) (xs : List UInt8) (h : x < 4294967296) : wput 4 x xs false = (xs ++ be 4 x, false) := by
  rw [wput_yes (by simp; omega)]; simp
theorem wtext_ok (s xs : List UInt8) (h : s.length < 65536) : wtext s xs false = (xs ++ be 2 s.length ++ s, false) := by
  rw [wtext, if_neg (by simp; omega)]

theorem be4_split (x : Nat) : be 4 x = be 2 (x / 65536) ++ be 2 (x % 65536) := by
  simp only [be, List.cons_append, List.nil_append, List.cons.injEq, and_true]
  refine ⟨?_, ?_, ?_, ?_⟩ <;> apply UInt8.toNat.inj <;> simp only [UInt8.toNat_ofNat'] <;> omega

/-- '(k%n + n) % n' lies from 0 to below n. -/
theorem modfix (k n : Int) (h0 : 0 < n) (h1 : n ≤ 4611686018427387904) : ∃ m : Nat, (wrap64 (k.tmod n + n)).tmod n = m ∧ (m : Int) < n := by
  have a := Int.tmod_lt_of_pos k h0
  have b := Int.lt_tmod_of_pos k h0
  have e : wrap64 (k.tmod n + n) = k.tmod n + n := IntWalk.wrap64_in _ (by omega)
  rw [e, Int.tmod_eq_emod_of_nonneg (by omega)]
  have c := Int.emod_nonneg (k.tmod n + n) (show n ≠ 0 by omega)
  have d := Int.emod_lt_of_pos (k.tmod n + n) h0
  obtain ⟨m, hm⟩ := Int.eq_ofNat_of_zero_le c
  exact ⟨m, hm, by omega⟩

/-- Bytes of which some lack. -/
theorem cut_bad (n : Nat) (s : List UInt8) (hn : n < 65536) (hs : s.length < 65536) (m : Nat) (hm : m < 4 + s.length) :
    ∃ x l b l', rnum 2 ((be 2 n ++ be 2 s.length ++ s).take m) false = (x, l, b) ∧ rtext l b = ([], l', true) := by
  have h2 : (be 2 n).length = 2 := be_length 2 n
  have h3 : (be 2 s.length).length = 2 := be_length 2 _
  by_cases h : m < 2
  · exact ⟨_, _, _, _, rnum_short 2 _ (by simp; omega), rtext_bad _⟩
  · have e1 : (be 2 n ++ be 2 s.length ++ s).take m = be 2 n ++ (be 2 s.length ++ s).take (m - 2) := by
      rw [List.append_assoc, List.take_append, h2, List.take_of_length_le (by omega)]
    rw [e1, rnum2 n _ hn]
    by_cases h' : m < 4
    · exact ⟨_, _, _, _, rfl, rtext_short _ (by simp; omega)⟩
    · have e2 : (be 2 s.length ++ s).take (m - 2) = be 2 s.length ++ s.take (m - 4) := by
        rw [List.take_append, h3, List.take_of_length_le (by omega)]
        congr 2
      rw [e2]
      refine ⟨_, _, _, s.take (m - 4), rfl, ?_⟩
      rw [rtext, rnum2 _ _ hs, rcut, if_pos (by right; simp; omega)]
end Go.Proofs.YtofejnhnnmnfpaaDoor.Rc
/- One writer, one reader of the call's own: the methods once more, with what was there ahead of the call told in one word. And 'alive'. No condition. -/
namespace Go.Proofs.YtofejnhnnmnfpaaDoor.Rc
set_option maxRecDepth 100000
open Go.RowKit

/-- A WRITER OF THE CALL's OWN: below H all is as it was in w0. -/
def WIn (H : Nat) (w0 w : World) (B : Nat) (xs : List UInt8) (b : Bool) : Prop :=
  ∃ row, WAt w B row xs b ∧ H ≤ B ∧ (∀ k, row = some k → H ≤ k) ∧ Below H w0 w ∧ H ≤ w.heap.size
def RIn (H : Nat) (w0 w : World) (R : Nat) (l : List UInt8) (b : Bool) : Prop := RAt w R l b ∧ H ≤ R ∧ Below H w0 w ∧ H ≤ w.heap.size

theorem WIn.new (w : World) : WIn w.heap.size w (w.alloc (.cells #[.slice none 0 0, .bool false] 112)) w.heap.size [] false :=
  ⟨none, ⟨.slice none 0 0, rfl, heap_alloc_new w _, World.ownsRow_nil _ _ _ _⟩, Nat.le_refl _, (fun _ h => by cases h), (Below.refl _ _).alloc (Nat.le_refl _) _, by simp⟩
theorem WIn.step {H : Nat} {w0 w w' : World} {B : Nat} {row : Option Nat} {ys : List UInt8} {b : Bool} (hB : H ≤ B) (hr : ∀ k, row = some k → H ≤ k) (hb : Below H w0 w) (hz : H ≤ w.heap.size) (h : WPost w w' B row ys b) : WIn H w0 w' B ys b := by
  obtain ⟨row', ha, hc, hk⟩ := h
  refine ⟨row', ha, hB, ?_, hb.trans (hc.below ?_ hz), Nat.le_trans hz hc.size⟩
  · intro k e
    rcases hk with rfl | hk
    · exact hr k e
    · exact Nat.le_trans hz (hk k e)
  · intro k _ hs
    rcases hs with rfl | hs
    · exact hB
    · exact hr k hs
theorem RIn.step {H : Nat} {w0 w w' : World} {R : Nat} {l : List UInt8} {b : Bool} (hR : H ≤ R) (hb : Below H w0 w) (hz : H ≤ w.heap.size) (h : RPost w w' R l b) : RIn H w0 w' R l b :=
  ⟨h.1, hR, hb.trans (h.2.below (fun k _ hs => by cases hs; exact hR) hz), Nat.le_trans hz h.2.size⟩

section
variable {H B R : Nat} {w0 w : World} {xs l : List UInt8} {b : Bool}
theorem iNum {ys : List UInt8} {c : Bool} (x : Int) (q : wput 2 x xs b = (ys, c)) (hs : xs.length + 2 ≤ 140737488355328) (h : WIn H w0 w B xs b) :
    Calls Tryd.prog 63 #[.pointer (some ⟨B, 0, none⟩), .int .i64 x] w fun e w' => e = .returned (.pointer (some ⟨B, 0, none⟩)) ∧ WIn H w0 w' B ys c := by
  obtain ⟨row, ha, hB, hr, hb, hz⟩ := h
  exact (wNum B row xs b x w hs ha).mono fun e w' ⟨he, hp⟩ => ⟨he, WIn.step hB hr hb hz (by rw [q] at hp; exact hp)⟩
theorem iLong {ys : List UInt8} {c : Bool} (x : Int) (q : wput 4 x xs b = (ys, c)) (hs : xs.length + 4 ≤ 140737488355328) (h : WIn H w0 w B xs b) :
    Calls Tryd.prog 64 #[.pointer (some ⟨B, 0, none⟩), .int .i64 x] w fun e w' => e = .returned (.pointer (some ⟨B, 0, none⟩)) ∧ WIn H w0 w' B ys c := by
  obtain ⟨row, ha, hB, hr, hb, hz⟩ := h
  exact (wLong B row xs b x w hs ha).mono fun e w' ⟨he, hp⟩ => ⟨he, WIn.step hB hr hb hz (by rw [q] at hp; exact hp)⟩
theorem iText {ys : List UInt8} {c : Bool} (s : ByteArray) (q : wtext s.data.toList xs b = (ys, c)) (hs : xs.length + 2 + s.size ≤ 140737488355328) (h : WIn H w0 w B xs b) :
    Calls Tryd.prog 65 #[.pointer (some ⟨B, 0, none⟩), .string s] w fun e w' => e = .returned (.pointer (some ⟨B, 0, none⟩)) ∧ WIn H w0 w' B ys c := by
  obtain ⟨row, ha, hB, hr, hb, hz⟩ := h
  exact (wText B row xs b s w hs ha).mono fun e w' ⟨he, hp⟩ => ⟨he, WIn.step hB hr hb hz (by rw [q] at hp; exact hp)⟩
/-- What Done answers. -/
def dones (xs : List UInt8) (b : Bool) : List UInt8 := if b then [] else xs
theorem iDone (h : WIn H w0 w B xs b) :
    Calls Tryd.prog 68 #[.pointer (some ⟨B, 0, none⟩)] w fun e w' => e = .returned (.tuple #[.string (mk (dones xs b)), .bool !b]) ∧ w = w' := by
  obtain ⟨row, ha, _⟩ := h
  cases b
  · exact wDone_ok B row xs w ha
  · exact wDone_bad B row xs w ha
theorem iFrom (hb : Below H w0 w) (hz : H ≤ w.heap.size) :
    Calls Tryd.prog 56 #[.string (mk l)] w fun e w' => ∃ R, e = .returned (.pointer (some ⟨R, 0, none⟩)) ∧ RIn H w0 w' R l false := by
  refine (rFrom l w).mono fun e w' ⟨he, hw⟩ => ⟨_, he, ?_⟩
  subst hw
  exact ⟨heap_alloc_new w _, hz, hb.alloc hz _, by simp; omega⟩
theorem jNum {n : Nat} {l' : List UInt8} {b' : Bool} (q : rnum 2 l b = (n, l', b')) (h : RIn H w0 w R l b) :
    Calls Tryd.prog 57 #[.pointer (some ⟨R, 0, none⟩)] w fun e w' => e = .returned (.int .i64 n) ∧ RIn H w0 w' R l' b' :=
  (rNum R l b w h.1).mono fun e w' ⟨he, hp⟩ => by rw [q] at he hp; exact ⟨he, RIn.step h.2.1 h.2.2.1 h.2.2.2 hp⟩
theorem jLong {n : Nat} {l' : List UInt8} {b' : Bool} (q : rnum 4 l b = (n, l', b')) (h : RIn H w0 w R l b) :
    Calls Tryd.prog 58 #[.pointer (some ⟨R, 0, none⟩)] w fun e w' => e = .returned (.int .i64 n) ∧ RIn H w0 w' R l' b' :=
  (rLong R l b w h.1).mono fun e w' ⟨he, hp⟩ => by rw [q] at he hp; exact ⟨he, RIn.step h.2.1 h.2.2.1 h.2.2.2 hp⟩
theorem jText {s l' : List UInt8} {b' : Bool} (q : rtext l b = (s, l', b')) (h : RIn H w0 w R l b) :
    Calls Tryd.prog 59 #[.pointer (some ⟨R, 0, none⟩)] w fun e w' => e = .returned (.string (mk s)) ∧ RIn H w0 w' R l' b' :=
  (rText R l b w h.1).mono fun e w' ⟨he, hp⟩ => by rw [q] at he hp; exact ⟨he, RIn.step h.2.1 h.2.2.1 h.2.2.2 hp⟩
theorem jBad (h : RIn H w0 w R l b) : Calls Tryd.prog 61 #[.pointer (some ⟨R, 0, none⟩)] w fun e w' => e = .returned (.bool b) ∧ w = w' := rBad R l b w h.1
theorem RIn.drewN (h : RIn H w0 w R l b) (n : Nat) : RIn H w0 (w.drewN n) R l b := ⟨h.1, h.2.1, ⟨h.2.2.1.os, h.2.2.1.tape, h.2.2.1.output, h.2.2.1.size, h.2.2.1.block⟩, h.2.2.2⟩
end

theorem WIn.was {H B : Nat} {w0 w : World} {xs : List UInt8} {b : Bool} (h : WIn H w0 w B xs b) : Below H w0 w ∧ H ≤ w.heap.size := by obtain ⟨_, _, _, _, h1, h2⟩ := h; exact ⟨h1, h2⟩

end Go.Proofs.YtofejnhnnmnfpaaDoor.Rc
