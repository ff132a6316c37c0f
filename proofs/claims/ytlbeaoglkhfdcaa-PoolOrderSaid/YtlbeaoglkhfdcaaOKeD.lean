/- A disk that is a map of the law's own. No condition. -/
import Derived.Test.YtlbeaoglkhfdcaaOKeP
import Derived.Test.YtlbeaoglkhfdcaaOStrM
import Derived.Test.YtlbeaoglkhfdcaaOAlive
namespace Go.Proofs.Ytlbeaoglkhfdcaa
open Go.RowKit Go.Maps Go.WideShapes
theorem ke_1 (n : Int) (hn : (Lit.int .i64 n).wf = true) (xb db m : Nat) (f : Int → ByteArray) (w : World) (h : SMap w db m f) (hx : w.cell? ⟨xb, 0, none⟩ = some (.map (some db))) : Calls Try.prog 26 #[.int .i64 n, .pointer (some ⟨xb, 0, none⟩)] w fun e w' => e = .returned (.tuple #[.string (f n), .int .i64 0]) ∧ w = w' := by
  have hl := h.look hn
  replace h := Lib.hid h
  go_enter Try.func26, Try.ntmps26
  go_wp2
  go_ret2
  exact ⟨rfl, rfl⟩
theorem ke_2 (n : Int) (hn : (Lit.int .i64 n).wf = true) (b : ByteArray) (xb db m : Nat) (hm : m < maxLen) (f : Int → ByteArray) (w : World) (h : SMap w db m f) (hx : w.cell? ⟨xb, 0, none⟩ = some (.map (some db))) : Calls Try.prog 27 #[.int .i64 n, .string b, .pointer (some ⟨xb, 0, none⟩)] w fun e w' => e = .returned (.int .i64 0) ∧ SMap w' db (m + 1) (fun x => if x = n then b else f x) ∧ w.grownBy w' (some db) := by
  replace h := Lib.hid h
  go_enter Try.func27, Try.ntmps27
  go_wp2_with (at_mapUpdate; refine wpList_smap_store rfl _ _ _ rfl rfl h.out hm n rfl hn b rfl ?_; intro w1 h1 hg1; replace h1 := Lib.hid h1; replace hg1 := Lib.hid hg1)
  go_ret
  exact ⟨rfl, h1.out, hg1.out⟩
theorem ke_3 (n : Int) (w : World) : Calls Try.prog 28 #[.int .i64 n] w fun e w' => e = .returned (.int .i64 0) ∧ w = w' := by
  go_enter Try.func28, Try.ntmps28
  go_wp2
  go_ret
  exact ⟨rfl, rfl⟩
def keDev (xb db : Nat) : Dev dvKe where
  I := fun F w t => (∀ k, F k ↔ k = xb ∨ k = db) ∧ xb ≠ db ∧ w.heap[xb]? = some (.cells #[.map (some db)] 55 (0, 0)) ∧ SMap w db t.2 t.1
  kept := fun ⟨h1, h0, h2, h3⟩ hc hS => ⟨h1, h0, hc.heap h2 (hS _ ((h1 _).2 (.inl rfl))), h3.kept hc (hS _ ((h1 _).2 (.inr rfl)))⟩
  lt := fun ⟨h1, h0, h2, h3⟩ k hk => by
    rcases (h1 k).1 hk with rfl | rfl
    · exact lt_of h2
    · exact h3.lt
  left := fun t => 1000000 - t.2
  leftR := fun t _ => Nat.le_succ _
  leftW := fun t _ _ => by simp only [dvKe]; omega
  leftL := fun t _ => Nat.le_succ _
  fR := 26
  fW := 27
  fL := 28
  pR := #[]
  cR := #[.pointer (some ⟨xb, 0, none⟩)]
  pW := #[]
  cW := #[.pointer (some ⟨xb, 0, none⟩)]
  pL := #[]
  cL := #[]
  entR := ent_any Try.func26 (by kernel_rfl) (by kernel_rfl)
  entW := ent_any Try.func27 (by kernel_rfl) (by kernel_rfl)
  entL := ent_any Try.func28 (by kernel_rfl) (by kernel_rfl)
  callR := fun {F w t} n h hn _ => (ke_1 n hn xb db t.2 t.1 w h.2.2.2 (cell_of h.2.2.1 rfl)).mono fun e w' ⟨he, hw⟩ => by subst hw; exact ⟨he, F, h, Stp.refl _ _⟩
  callW := fun {F w t} n s h hn hl => (ke_2 n hn s xb db t.2 (by unfold maxLen; omega) t.1 w h.2.2.2 (cell_of h.2.2.1 rfl)).mono fun e w' ⟨he, hM, hg⟩ => by
    obtain ⟨h1, h0, h2, h3⟩ := h
    have hc : Chg F w w' := (Chg.refl _ w).grown hg (fun j _ e => by cases e; exact (h1 _).2 (.inr rfl))
    have hc2 : Chg (fun k => k = db) w w' := (Chg.refl _ w).grown hg (fun j _ e => by cases e; rfl)
    exact ⟨he, F, ⟨h1, h0, hc2.heap h2 h0, hM⟩, hc, fun _ h => .inl h⟩
  callL := fun {F w t} n h _ => (ke_3 n w).mono fun e w' ⟨he, hw⟩ => by subst hw; exact ⟨he, F, h, Stp.refl _ _⟩
theorem ke_new {db : Nat} (cap : Nat) (h1 : 1 ≤ cap) (h2 : cap ≤ 16) (w0 w : World) (hb : Below w0.heap.size w0 w) (xb : Nat) (hx : w.heap[xb]? = some (.cells #[.map (some db)] 55 (0, 0))) (hd : SMap w db 0 (fun _ => ByteArray.empty)) (hxd : xb ≠ db) (hx0 : w0.heap.size ≤ xb) (hd0 : w0.heap.size ≤ db) :
    Calls Try.prog 12 #[.int .i64 cap, .func (.func 26) #[] #[.pointer (some ⟨xb, 0, none⟩)], .func (.func 27) #[] #[.pointer (some ⟨xb, 0, none⟩)], .func (.func 28) #[] #[]] w fun e w' => ∃ pb, e = .returned (.pointer (some ⟨pb, 0, none⟩)) ∧ LP (keDev xb db) (fun k => k = w'.heap.size) w0.heap.size w0 (w'.alloc (.map #[] 0)) pb cap (fun _ => ByteArray.empty, 0) PS.new ∧ w0.heap.size ≤ w'.heap.size := by
  refine (lNew (E := keDev xb db) (K := fun _ => False) (F := fun k => k = xb ∨ k = db) (B := w0.heap.size) (w0 := w0) (t := (fun _ => ByteArray.empty, 0)) h1 h2 ⟨fun k => Iff.rfl, hxd, hx, hd⟩ (fun k hk => ⟨by omega, id⟩) hb hb.size (fun _ h => h.elim)).mono ?_
  rintro e w' ⟨pb, rfl, ⟨G, k1, k2, k3, k4, k5⟩, _⟩
  exact ⟨pb, rfl, ⟨G, k1.kept (S := fun _ => False) ((Chg.refl _ w').alloc _) (fun _ _ => id), fun k hk => ⟨(k2 k hk).1, fun e => by have := k1.lt k hk; omega⟩, k3.trans ((Chg.refl (fun _ => False) w').alloc _ |>.below (fun _ _ h => h.elim) k4), by simp; omega, fun k hk => by simp; omega⟩, k4⟩
/-- Behind a step that touches just the disk and the pool: what is beside them. -/
theorem LP.disk {xb db : Nat} {K : Nat → Prop} {B : Nat} {w0 w : World} {pb cap : Nat} {t : KeT} {s : PS} (h : LP (keDev xb db) K B w0 w pb cap t s) : w.cell? ⟨xb, 0, none⟩ = some (.map (some db)) ∧ xb < w.heap.size ∧ SMap w db t.2 t.1 := by
  obtain ⟨G, ⟨F, mb, bk, hA, ⟨i1, i2, i3, i4⟩, hG, hl⟩, _⟩ := h
  exact ⟨cell_of i3 rfl, lt_of i3, i4⟩
theorem ke_start (cap : Nat) (h1 : 1 ≤ cap) (h2 : cap ≤ 16) (w0 w1 : World) (hb : Below w0.heap.size w0 w1) :
    Calls Try.prog 12 #[.int .i64 cap, .func (.func 26) #[] #[.pointer (some ⟨w1.heap.size + 1, 0, none⟩)], .func (.func 27) #[] #[.pointer (some ⟨w1.heap.size + 1, 0, none⟩)], .func (.func 28) #[] #[]] ((w1.alloc (.map #[] 0)).alloc (.cells #[.map (some w1.heap.size)] 55)) fun e w' => ∃ pb, e = .returned (.pointer (some ⟨pb, 0, none⟩)) ∧ LP (keDev (w1.heap.size + 1) w1.heap.size) (fun k => k = w'.heap.size) w0.heap.size w0 (w'.alloc (.map #[] 0)) pb cap (fun _ => ByteArray.empty, 0) PS.new ∧ SMap (w'.alloc (.map #[] 0)) w'.heap.size 0 (fun _ => ByteArray.empty) ∧ w0.heap.size ≤ w'.heap.size := by
  have hs := hb.size
  have hx := heap_alloc_new (w1.alloc (.map #[] 0)) (.cells #[.map (some w1.heap.size)] 55)
  rw [show (w1.alloc (.map #[] 0)).heap.size = w1.heap.size + 1 by simp] at hx
  have hd := (SMap.made w1).kept (S := fun _ => False) ((Chg.refl _ _).alloc (.cells #[.map (some w1.heap.size)] 55)) id
  refine (ke_new cap h1 h2 w0 _ ((hb.alloc hs _).alloc (by simp; omega) _) (w1.heap.size + 1) hx hd (by omega) (by omega) hs).mono ?_
  rintro e w' ⟨pb, rfl, hP⟩
  exact ⟨pb, rfl, hP.1, SMap.made w', hP.2⟩
section
variable {σ : Type} {D : Dv σ} {E : Dev D} {K K' : Nat → Prop} {B : Nat} {w0 w w' : World} {pb cap : Nat} {t : σ} {s : PS}
theorem LP.widen (h : LP E K B w0 w pb cap t s) (hg : w.grownBy w' none) (hs : w'.heap.size = w.heap.size + 1) : LP E (fun k => K k ∨ k = w.heap.size) B w0 w' pb cap t s := by
  obtain ⟨G, h1, h2, h3, h4, h5⟩ := h
  have hc : Chg (fun _ => False) w w' := (Chg.refl _ w).grown hg (fun j _ e => by cases e)
  refine ⟨G, h1.kept hc (fun _ _ => id), fun k hk => ⟨(h2 k hk).1, fun e => e.elim (h2 k hk).2 (fun e => by have := h1.lt k hk; omega)⟩, h3.trans (hc.below (fun _ _ h => h.elim) h4), by omega, fun k hk => by
    rcases hk with hk | hk
    · have := h5 k hk; omega
    · omega⟩
theorem LP.shrink (h : LP E K B w0 w pb cap t s) (hK : ∀ k, K' k → K k) : LP E K' B w0 w pb cap t s := by
  obtain ⟨G, h1, h2, h3, h4, h5⟩ := h
  exact ⟨G, h1, fun k hk => ⟨(h2 k hk).1, fun e => (h2 k hk).2 (hK k e)⟩, h3, h4, fun k hk => h5 k (hK k hk)⟩
end
end Go.Proofs.Ytlbeaoglkhfdcaa
