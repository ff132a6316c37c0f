/- Put of package record. No condition but the table of spaces. -/
import Derived.Test.YtofejnhnnmnfpaaDoorRecQ
import Derived.Test.YtofejnhnnmnfpaaDoorRCs
namespace Go.Proofs.YtofejnhnnmnfpaaDoor.Rc
set_option maxRecDepth 100000
open Go.RowKit
theorem run_store_func {w : World} {a : Addr} {m : Mode} (fn : Fn) (x y : Array Value) : (store a (.func fn x y) m).run Tryd.prog w = stored Tryd.prog w a (.func fn x y) m := run_store Tryd.prog w a _ m rfl
attribute [local go_sem] run_store_func
theorem yes_any (b : Bool) (w : World) : Calls Tryd.prog 67 #[.bool b] w fun e w' => e = .returned (.int .i64 (if b = true then 1 else 0)) ∧ w = w' := by
  cases b
  · go_enter Tryd.func67, Tryd.ntmps67
    go_wp2
    go_ret
    exact ⟨rfl, rfl⟩
  · go_enter Tryd.func67, Tryd.ntmps67
    go_wp2
    go_ret
    exact ⟨rfl, rfl⟩
theorem put_no (v vp vt vx vd : Value) (r : Rec) (w : World) (hT : Tab w) (h : RecAt w v vp vt vx vd r) (hok : recOk r = false) : Calls Tryd.prog 32 #[v] w fun e w' => e = .returned (.tuple #[.string ⟨#[]⟩, .bool false]) ∧ Below w.heap.size w w' := by
  have hw0 : ∀ o, Below w.heap.size w (w.alloc o) := fun o => (Below.refl _ _).alloc (Nat.le_refl _) o
  have C := fun o => right_any v vp vt vx vd r (w.alloc o) (hT.more (hw0 o)) (h.more (hw0 o))
  rw [hok] at C
  obtain ⟨rfl, _⟩ := h
  replace C := Lib.hid C
  replace hw0 := Lib.hid hw0
  go_enter Tryd.func32, Tryd.ntmps32
  go_wp2_with fail
  refine (C.out _).mono ?_
  rintro e w1 ⟨rfl, hb⟩
  have hb2 := Lib.hid ((hw0.out _).trans (hb.mono (by simp)))
  clear hb
  go_wp2
  go_ret2
  exact ⟨rfl, hb2.out⟩
/-- In Put: the writer beside blocks that are held. -/
structure PB (L : List (Nat × Obj)) (B : Nat) (w0 w : World) (xs : List UInt8) : Prop where
  wk : WK w0.heap.size (fun k => ∃ o, (k, o) ∈ L) w0 w B xs
  hold : ∀ p ∈ L, w.heap[p.1]? = some p.2
section
variable {L : List (Nat × Obj)} {B : Nat} {w0 w w' : World} {xs ys : List UInt8}
theorem PB.step (h : PB L B w0 w xs) (hw : WK w0.heap.size (fun k => ∃ o, (k, o) ∈ L) w0 w' B ys) (hc : Chg (fun k => ¬ ∃ o, (k, o) ∈ L) w w') : PB L B w0 w' ys :=
  ⟨hw, fun p hp => hc.heap (h.hold p hp) (fun e => e ⟨p.2, hp⟩)⟩
theorem pb_num (h : PB L B w0 w xs) (x : Int) (hx : short x = true) (hs : xs.length ≤ 1000000) (e : ys = xs ++ n2 x) : Calls Tryd.prog 63 #[.pointer (some ⟨B, 0, none⟩), .int .i64 x] w fun e w' => e = .returned (.pointer (some ⟨B, 0, none⟩)) ∧ PB L B w0 w' ys := by
  subst e
  exact (kNum x hx hs h.wk).mono fun e w' ⟨he, h1, h2⟩ => ⟨he, h.step h1 h2⟩
theorem pb_long (h : PB L B w0 w xs) (x : Int) (hx : long x = true) (hs : xs.length ≤ 1000000) (e : ys = xs ++ n4 x) : Calls Tryd.prog 64 #[.pointer (some ⟨B, 0, none⟩), .int .i64 x] w fun e w' => e = .returned (.pointer (some ⟨B, 0, none⟩)) ∧ PB L B w0 w' ys := by
  subst e
  exact (kLong x hx hs h.wk).mono fun e w' ⟨he, h1, h2⟩ => ⟨he, h.step h1 h2⟩
theorem pb_text (h : PB L B w0 w xs) (s : List UInt8) (hx : s.length < 65536) (hs : xs.length ≤ 1000000) (e : ys = xs ++ tt s) : Calls Tryd.prog 65 #[.pointer (some ⟨B, 0, none⟩), .string (mk s)] w fun e w' => e = .returned (.pointer (some ⟨B, 0, none⟩)) ∧ PB L B w0 w' ys := by
  subst e
  exact (kText s hx hs h.wk).mono fun e w' ⟨he, h1, h2⟩ => ⟨he, h.step h1 h2⟩
theorem pb_numbers {nb : Nat} (h : PB L B w0 w xs) (hn : (nb, Obj.cells #[.func (.func 63) #[.pointer (some ⟨B, 0, none⟩)] #[]] 113 (0, 0)) ∈ L) (v : Value) (l : List Int) (hok : pagesOk l = true) (hv : IsI w0 v l) (hs : xs.length ≤ 500000) (e : ys = xs ++ nums l) : Calls Tryd.prog 66 #[v, .pointer (some ⟨nb, 0, none⟩)] w fun e w' => e = .returned (.tuple #[]) ∧ PB L B w0 w' ys := by
  subst e
  exact (numbers_any v l hok hv rfl hs h.wk ⟨_, hn⟩ (cell_of (h.hold _ hn) rfl)).mono fun e w' ⟨he, h1, h2⟩ => ⟨he, h.step h1 h2⟩
theorem PB.more (h : PB L B w0 w xs) (hb : Below w.heap.size w w') : PB L B w0 w' xs := h.step (h.wk.more hb) (Chg.of_below hb)
theorem PB.push (h : PB L B w0 w xs) (o : Obj) : PB ((w.heap.size, o) :: L) B w0 (w.alloc o) xs :=
  ⟨(h.wk.widen o).shrink (fun k ⟨o', e⟩ => by
    rcases List.mem_cons.1 e with e | e
    · exact .inr (by cases e; rfl)
    · exact .inl ⟨o', e⟩), fun p hp => by
    rcases List.mem_cons.1 hp with rfl | hp
    · exact heap_alloc_new w o
    · exact ((Chg.refl (fun _ => False) w).alloc o).heap (h.hold p hp) id⟩
theorem PB.pop {x : Nat × Obj} (h : PB (x :: L) B w0 w xs) : PB L B w0 w xs := ⟨h.wk.shrink (fun _ ⟨o, e⟩ => ⟨o, List.mem_cons_of_mem _ e⟩), fun p hp => h.hold p (List.mem_cons_of_mem _ hp)⟩
theorem PB.top {b : Nat} {o : Obj} (h : PB ((b, o) :: L) B w0 w xs) : w.heap[b]? = some o := h.hold _ (List.mem_cons_self)
theorem PB.start {rb : Nat} {o : Obj} {w1 : World} (h0 : rb < w1.heap.size) (hb : Below w0.heap.size w0 w1) (hr : w1.heap[rb]? = some o) : PB [(w1.heap.size + 1, .cells #[.func (.func 63) #[.pointer (some ⟨w1.heap.size, 0, none⟩)] #[]] 113 (0, 0)), (rb, o)] w1.heap.size w0 ((w1.alloc (.cells #[.slice none 0 0, .bool false] 112)).alloc (.cells #[.func (.func 63) #[.pointer (some ⟨w1.heap.size, 0, none⟩)] #[]] 113 (0, 0))) [] := by
  have h1 : PB [(rb, o)] w1.heap.size w0 (w1.alloc (.cells #[.slice none 0 0, .bool false] 112)) [] :=
    ⟨WK.new hb hb.size (fun k ⟨o', e⟩ => by
      have := List.mem_singleton.1 e
      cases this
      exact h0), fun p hp => by
      rw [List.mem_singleton.1 hp]
      exact ((Chg.refl (fun _ => False) w1).alloc _).heap hr id⟩
  have h2 := h1.push (.cells #[.func (.func 63) #[.pointer (some ⟨w1.heap.size, 0, none⟩)] #[]] 113 (0, 0))
  rw [show (w1.alloc (.cells #[.slice none 0 0, .bool false] 112)).heap.size = w1.heap.size + 1 by simp] at h2
  exact h2
end
theorem pats_len : ∀ (l : List Pt), (∀ p ∈ l, patOk p = true) → (l.flatMap pte).length ≤ 262 * l.length
  | [], _ => by simp
  | p :: l, h => by
    have h1 := pats_len l (fun q hq => h q (by simp [hq]))
    have h2 := h p (by simp)
    simp only [patOk, Bool.and_eq_true, decide_eq_true_eq] at h2
    rw [List.flatMap_cons, List.length_append, List.length_cons]
    simp only [pte, List.length_append, n2_length, tt_length]
    omega
theorem txs_len : ∀ (l : List Tt), (∀ p ∈ l, txOk p = true) → (l.flatMap txe).length ≤ 140 * l.length
  | [], _ => by simp
  | p :: l, h => by
    have h1 := txs_len l (fun q hq => h q (by simp [hq]))
    have h2 := h p (by simp)
    simp only [txOk, pagesOk, Bool.and_eq_true, decide_eq_true_eq] at h2
    rw [List.flatMap_cons, List.length_append, List.length_cons]
    simp only [txe, nums, yes, List.length_append, n2_length, n4_length, be_length, flat_len]
    omega
theorem dirs_len : ∀ (l : List (Int × Int)), (l.flatMap die).length = 6 * l.length
  | [] => rfl
  | p :: l => by
    rw [List.flatMap_cons, List.length_append, List.length_cons, dirs_len l]
    simp only [die, List.length_append, n2_length, n4_length]
    omega
theorem flat_take {α : Type} (f : α → List UInt8) (l : List α) (k : Nat) (h : k < l.length) : (l.take (k + 1)).flatMap f = (l.take k).flatMap f ++ f l[k] := by
  simp only [List.take_succ_eq_append_getElem h, List.flatMap_append, List.flatMap_cons, List.flatMap_nil, List.append_nil]
set_option maxRecDepth 100000 in
set_option maxHeartbeats 6400000 in
theorem put_yes (v vp vt vx vd : Value) (r : Rec) (w : World) (hT : Tab w) (h : RecAt w v vp vt vx vd r) (hok : RecOk r) : Calls Tryd.prog 32 #[v] w fun e w' => e = .returned (.tuple #[.string (mk (enc r)), .bool true]) ∧ Below w.heap.size w w' := by
  have hmf : ∀ (fn : Fn) (first cap : Array Value) (w : World), (Instr.makeFunc fn first cap).run Tryd.prog w = .ok (.func fn first cap) w := fun _ _ _ _ => rfl
  have hw0 : ∀ o, Below w.heap.size w (w.alloc o) := fun o => (Below.refl _ _).alloc (Nat.le_refl _) o
  have C := fun o => right_any v vp vt vx vd r (w.alloc o) (hT.more (hw0 o)) (h.more (hw0 o))
  rw [(recOk_iff r).2 hok] at C
  obtain ⟨rfl, hp, ht, hx, hd⟩ := h
  obtain ⟨kind, tx, prev, next, key, had, ⟨ok, ov, ob, os⟩, pages, pats, txs, dirty⟩ := r
  obtain ⟨o1, o2, o3, o4, o5, o6, o7, o8, o9, o10, o11, o12, o13⟩ := hok
  simp only at *
  obtain ⟨z1, z2, z3, z4⟩ := cell_small o6
  simp only at z1 z2 z3 z4
  have hkd : short kind = true := by simp [short]; omega
  obtain ⟨fin, hfin⟩ : ∃ fin, fin = enc ⟨kind, tx, prev, next, key, had, ⟨ok, ov, ob, os⟩, pages, pats, txs, dirty⟩ := ⟨_, rfl⟩
  rw [← hfin]
  replace hfin := Lib.hid hfin
  replace o6 := Lib.hid o6
  replace C := Lib.hid C
  replace hw0 := Lib.hid hw0
  replace o11 := Lib.hid o11
  replace o12 := Lib.hid o12
  replace o13 := Lib.hid o13
  replace hp := Lib.hid hp
  obtain ⟨at_, ct, rfl, ht⟩ := ht
  obtain ⟨ax, cx, rfl, hx⟩ := hx
  obtain ⟨ad, cd, rfl, hd⟩ := hd
  replace ht := Lib.hid ht
  replace hx := Lib.hid hx
  replace hd := Lib.hid hd
  go_enter Tryd.func32, Tryd.ntmps32
  go_wp2_with fail
  refine (C.out _).mono ?_
  rintro e w1 ⟨rfl, hb⟩
  have hrc := (Chg.of_below (S := fun _ => False) hb).heap (heap_alloc_new w _) id
  have hb2 := (hw0.out _).trans (hb.mono (by simp))
  have p0 := PB.start (lt_of hrc) hb2 hrc
  obtain ⟨⟨d0, d1, d2, d3, d4, d5, d6⟩, ⟨d7, d8, d9, d10, d11, d12, d13⟩, hl1⟩ := rec_cells hrc
  clear hb C d1 d2 d3 d4 d5 d6 d7 d8 d9 d10 d11 d12 d13
  obtain ⟨x0, e0⟩ : ∃ x : List UInt8, x = [] := ⟨_, rfl⟩
  rw [← e0] at p0
  obtain ⟨L, hL⟩ : ∃ L : List (Nat × Obj), L = [(w1.heap.size + 1, Obj.cells #[.func (.func 63) #[.pointer (some ⟨w1.heap.size, 0, none⟩)] #[]] 113 (0, 0)), (w.heap.size, .cells #[.int .i64 kind, .int .i64 tx, .int .i64 prev, .int .i64 next, .string (mk key), .bool had, .string (mk ok), .string (mk ov), .int .i64 ob, .int .i64 os, vp, .slice at_ pats.length ct, .slice ax txs.length cx, .slice ad dirty.length cd] 37 (0, 0))] := ⟨_, rfl⟩
  rw [← hL] at p0
  have rcL : ∀ x ys, PB L w1.heap.size w x ys → x.heap[w.heap.size]? = some (.cells #[.int .i64 kind, .int .i64 tx, .int .i64 prev, .int .i64 next, .string (mk key), .bool had, .string (mk ok), .string (mk ov), .int .i64 ob, .int .i64 os, vp, .slice at_ pats.length ct, .slice ax txs.length cx, .slice ad dirty.length cd] 37 (0, 0)) := fun x ys h => h.hold (_, _) (by rw [hL]; simp)
  have nmL : ∀ x ys, PB L w1.heap.size w x ys → x.heap[w1.heap.size + 1]? = some (.cells #[.func (.func 63) #[.pointer (some ⟨w1.heap.size, 0, none⟩)] #[]] 113 (0, 0)) := fun x ys h => h.hold (_, _) (by rw [hL]; simp)
  have inL : (w1.heap.size + 1, Obj.cells #[.func (.func 63) #[.pointer (some ⟨w1.heap.size, 0, none⟩)] #[]] 113 (0, 0)) ∈ L := by rw [hL]; simp
  replace rcL := Lib.hid rcL
  replace nmL := Lib.hid nmL
  replace inL := Lib.hid inL
  replace hL := Lib.hid hL
  have l0 : x0.length ≤ 0 := by rw [e0]; simp
  replace e0 := Lib.hid e0
  obtain ⟨x1, e1⟩ : ∃ x, x = x0 ++ n2 kind := ⟨_, rfl⟩
  have c1 := pb_num (ys := x1) p0 kind hkd (by omega) e1
  have l1 : x1.length ≤ 2 := by rw [e1, List.length_append, n2_length]; omega
  replace c1 := Lib.hid c1
  replace e1 := Lib.hid e1
  go_wp2_with fail
  refine c1.out.mono ?_
  rintro e w2 ⟨rfl, p1⟩
  clear c1 p0 l0 d0 hl1
  have nm1 := cell_of (i := 0) (nmL.out _ _ p1) rfl
  have nl1 := lt_of (nmL.out _ _ p1)
  have d1 := cell_of (i := 1) (rcL.out _ _ p1) rfl
  have hl2 := lt_of (rcL.out _ _ p1)
  obtain ⟨x2, e2⟩ : ∃ x, x = x1 ++ n2 tx := ⟨_, rfl⟩
  have c2 := pb_num (ys := x2) p1 tx o2 (by omega) e2
  have l2 : x2.length ≤ 4 := by rw [e2, List.length_append, n2_length]; omega
  replace c2 := Lib.hid c2
  replace e2 := Lib.hid e2
  replace p1 := Lib.hid p1
  go_wp2_with fail
  refine c2.out.mono ?_
  rintro e w3 ⟨rfl, p2⟩
  clear c2 p1 l1 d1 hl2
  have nm2 := cell_of (i := 0) (nmL.out _ _ p2) rfl
  have nl2 := lt_of (nmL.out _ _ p2)
  clear nm1 nl1
  have d2 := cell_of (i := 2) (rcL.out _ _ p2) rfl
  have hl3 := lt_of (rcL.out _ _ p2)
  obtain ⟨x3, e3⟩ : ∃ x, x = x2 ++ n4 prev := ⟨_, rfl⟩
  have c3 := pb_long (ys := x3) p2 prev o3 (by omega) e3
  have l3 : x3.length ≤ 8 := by rw [e3, List.length_append, n4_length]; omega
  replace c3 := Lib.hid c3
  replace e3 := Lib.hid e3
  replace p2 := Lib.hid p2
  go_wp2_with fail
  refine c3.out.mono ?_
  rintro e w4 ⟨rfl, p3⟩
  clear c3 p2 l2 d2 hl3
  have nm3 := cell_of (i := 0) (nmL.out _ _ p3) rfl
  have nl3 := lt_of (nmL.out _ _ p3)
  clear nm2 nl2
  have d3 := cell_of (i := 3) (rcL.out _ _ p3) rfl
  have hl4 := lt_of (rcL.out _ _ p3)
  obtain ⟨x4, e4⟩ : ∃ x, x = x3 ++ n4 next := ⟨_, rfl⟩
  have c4 := pb_long (ys := x4) p3 next o4 (by omega) e4
  have l4 : x4.length ≤ 12 := by rw [e4, List.length_append, n4_length]; omega
  replace c4 := Lib.hid c4
  replace e4 := Lib.hid e4
  replace p3 := Lib.hid p3
  go_wp2_with fail
  refine c4.out.mono ?_
  rintro e w5 ⟨rfl, p4⟩
  clear c4 p3 l3 d3 hl4
  have nm4 := cell_of (i := 0) (nmL.out _ _ p4) rfl
  have nl4 := lt_of (nmL.out _ _ p4)
  clear nm3 nl3
  have d4 := cell_of (i := 4) (rcL.out _ _ p4) rfl
  have hl5 := lt_of (rcL.out _ _ p4)
  obtain ⟨x5, e5⟩ : ∃ x, x = x4 ++ tt key := ⟨_, rfl⟩
  have c5 := pb_text (ys := x5) p4 key (by omega) (by omega) e5
  have l5 : x5.length ≤ 269 := by rw [e5, List.length_append, tt_length]; omega
  replace c5 := Lib.hid c5
  replace e5 := Lib.hid e5
  replace p4 := Lib.hid p4
  go_wp2_with fail
  refine c5.out.mono ?_
  rintro e w6 ⟨rfl, p5⟩
  clear c5 p4 l4 d4 hl5
  have nm5 := cell_of (i := 0) (nmL.out _ _ p5) rfl
  have nl5 := lt_of (nmL.out _ _ p5)
  clear nm4 nl4
  have d5 := cell_of (i := 5) (rcL.out _ _ p5) rfl
  have hl6 := lt_of (rcL.out _ _ p5)
  obtain ⟨x6, e6⟩ : ∃ x, x = x5 ++ yes had := ⟨_, rfl⟩
  replace p5 := p5.more (Below.refl _ _).drew
  obtain ⟨yv, hyv⟩ : ∃ y : Int, y = if had = true then 1 else 0 := ⟨_, rfl⟩
  have c6 := pb_num (ys := x6) p5 yv (by rw [hyv]; cases had <;> decide) (by omega) (by rw [e6, hyv]; cases had <;> rfl)
  have cy := yes_any had
  rw [← hyv] at cy
  replace hyv := Lib.hid hyv
  replace cy := Lib.hid cy
  have l6 : x6.length ≤ 271 := by rw [e6, List.length_append, yes, be_length]; omega
  replace c6 := Lib.hid c6
  replace e6 := Lib.hid e6
  replace p5 := Lib.hid p5
  go_wp2
  go_region_held3 (fun x => x.cell? ⟨w1.heap.size + 1, 0, none⟩ = some (.func (.func 63) #[.pointer (some ⟨w1.heap.size, 0, none⟩)] #[]) ∧ x.cell? ⟨w.heap.size, 5, none⟩ = some (.bool had) ∧ w1.heap.size + 1 < x.heap.size ∧ w.heap.size < x.heap.size) (first | assumption | (exact ⟨nm5, d5, nl5, hl6⟩) | (exact S6.out))
    (first | (go_at_call 67; refine (cy.out _).mono ?_; rintro e w' ⟨rfl, rfl⟩) | (go_at_call 63; refine c6.out.mono ?_; rintro e w7 ⟨rfl, p6⟩; have S6 := Lib.hid (And.intro (cell_of (i := 0) (nmL.out _ _ p6) rfl) (And.intro (cell_of (i := 5) (rcL.out _ _ p6) rfl) (And.intro (lt_of (nmL.out _ _ p6)) (lt_of (rcL.out _ _ p6)))))))
  clear S6 cy
  clear c6 p5 l5 d5 hl6
  have nm6 := cell_of (i := 0) (nmL.out _ _ p6) rfl
  have nl6 := lt_of (nmL.out _ _ p6)
  clear nm5 nl5
  have d6 := cell_of (i := 6) (rcL.out _ _ p6) rfl
  have hl7 := lt_of (rcL.out _ _ p6)
  obtain ⟨x7, e7⟩ : ∃ x, x = x6 ++ tt ok := ⟨_, rfl⟩
  have c7 := pb_text (ys := x7) p6 ok z1 (by omega) e7
  have l7 : x7.length ≤ 66271 := by rw [e7, List.length_append, tt_length]; omega
  replace c7 := Lib.hid c7
  replace e7 := Lib.hid e7
  replace p6 := Lib.hid p6
  go_wp2_with fail
  refine c7.out.mono ?_
  rintro e w8 ⟨rfl, p7⟩
  clear c7 p6 l6 d6 hl7
  have nm7 := cell_of (i := 0) (nmL.out _ _ p7) rfl
  have nl7 := lt_of (nmL.out _ _ p7)
  clear nm6 nl6
  have d7 := cell_of (i := 7) (rcL.out _ _ p7) rfl
  have hl8 := lt_of (rcL.out _ _ p7)
  obtain ⟨x8, e8⟩ : ∃ x, x = x7 ++ tt ov := ⟨_, rfl⟩
  have c8 := pb_text (ys := x8) p7 ov z2 (by omega) e8
  have l8 : x8.length ≤ 132271 := by rw [e8, List.length_append, tt_length]; omega
  replace c8 := Lib.hid c8
  replace e8 := Lib.hid e8
  replace p7 := Lib.hid p7
  go_wp2_with fail
  refine c8.out.mono ?_
  rintro e w9 ⟨rfl, p8⟩
  clear c8 p7 l7 d7 hl8
  have nm8 := cell_of (i := 0) (nmL.out _ _ p8) rfl
  have nl8 := lt_of (nmL.out _ _ p8)
  clear nm7 nl7
  have d8 := cell_of (i := 8) (rcL.out _ _ p8) rfl
  have hl9 := lt_of (rcL.out _ _ p8)
  obtain ⟨x9, e9⟩ : ∃ x, x = x8 ++ n2 ob := ⟨_, rfl⟩
  have c9 := pb_num (ys := x9) p8 ob z3 (by omega) e9
  have l9 : x9.length ≤ 132273 := by rw [e9, List.length_append, n2_length]; omega
  replace c9 := Lib.hid c9
  replace e9 := Lib.hid e9
  replace p8 := Lib.hid p8
  go_wp2_with fail
  refine c9.out.mono ?_
  rintro e w10 ⟨rfl, p9⟩
  clear c9 p8 l8 d8 hl9
  have nm9 := cell_of (i := 0) (nmL.out _ _ p9) rfl
  have nl9 := lt_of (nmL.out _ _ p9)
  clear nm8 nl8
  have d9 := cell_of (i := 9) (rcL.out _ _ p9) rfl
  have hl10 := lt_of (rcL.out _ _ p9)
  obtain ⟨x10, e10⟩ : ∃ x, x = x9 ++ n2 os := ⟨_, rfl⟩
  have c10 := pb_num (ys := x10) p9 os z4 (by omega) e10
  have l10 : x10.length ≤ 132275 := by rw [e10, List.length_append, n2_length]; omega
  replace c10 := Lib.hid c10
  replace e10 := Lib.hid e10
  replace p9 := Lib.hid p9
  go_wp2_with fail
  refine c10.out.mono ?_
  rintro e w11 ⟨rfl, p10⟩
  clear c10 p9 l9 d9 hl10
  have nm10 := cell_of (i := 0) (nmL.out _ _ p10) rfl
  have nl10 := lt_of (nmL.out _ _ p10)
  clear nm9 nl9
  have d10 := cell_of (i := 10) (rcL.out _ _ p10) rfl
  have hl11 := lt_of (rcL.out _ _ p10)
  obtain ⟨x11, e11⟩ : ∃ x, x = x10 ++ nums pages := ⟨_, rfl⟩
  have c11 := pb_numbers (ys := x11) p10 inL.out vp pages o7 hp.out (by omega) e11
  have l11 : x11.length ≤ 140000 := by
    have h64 : pages.length ≤ 64 := by simp only [pagesOk, Bool.and_eq_true, decide_eq_true_eq] at o7; exact o7.1
    rw [e11, List.length_append, nums, List.length_append, be_length, flat_len]; omega
  replace c11 := Lib.hid c11
  replace e11 := Lib.hid e11
  replace p10 := Lib.hid p10
  go_wp2_with fail
  refine c11.out.mono ?_
  rintro e w12 ⟨rfl, p11⟩
  clear c11 p10 l10 nm10 nl10 d10 hl11
  have nm12 := cell_of (i := 0) (nmL.out _ _ p11) rfl
  have nl12 := lt_of (nmL.out _ _ p11)
  have d11_12 := cell_of (i := 11) (rcL.out _ _ p11) rfl
  have hl12_ := lt_of (rcL.out _ _ p11)
  obtain ⟨x12, e12⟩ : ∃ x, x = x11 ++ n2 pats.length := ⟨_, rfl⟩
  have c12 := pb_num (ys := x12) p11 (pats.length : Int) (by simp [short]; omega) (by omega) e12
  have l12 : x12.length ≤ 140002 := by rw [e12, List.length_append, n2_length]; omega
  replace c12 := Lib.hid c12
  replace e12 := Lib.hid e12
  replace p11 := Lib.hid p11
  go_wp2_with fail
  refine c12.out.mono ?_
  rintro e w13 ⟨rfl, p12⟩
  clear c12 p11 l11 nm12 nl12 d11_12 hl12_
  have nm13 := cell_of (i := 0) (nmL.out _ _ p12) rfl
  have nl13 := lt_of (nmL.out _ _ p12)
  have d11_13 := cell_of (i := 11) (rcL.out _ _ p12) rfl
  have hl13_ := lt_of (rcL.out _ _ p12)
  replace p12 := Lib.hid p12
  go_wp2
  go_loopg [84] pats.length (fun g i wr => ∃ k : Nat, g + k = pats.length ∧ i = .int .i64 k ∧ Aside (PB L w1.heap.size w wr (x12 ++ (pats.take k).flatMap pte)))
  case atStart => exact ⟨0, rfl, rfl, (show PB L w1.heap.size w w13 (x12 ++ (pats.take 0).flatMap pte) by simpa using p12.out)⟩
  case round =>
    obtain ⟨k, hk, rfl, hI⟩ := hrel
    have i1 := hI.out
    clear hI nm13 nl13 d11_13 hl13_ p12
    by_cases hlt : k < pats.length
    · obtain ⟨b, o, rfl, g0, g1, g2⟩ := ht.out k hlt
      replace g0 := cell_more i1.wk.was.1 g0
      replace g1 := cell_more i1.wk.was.1 g1
      replace g2 := cell_more i1.wk.was.1 g2
      have hbl := World.block_lt_of_cell? wr _ g0
      have hpo := o11.out _ (List.getElem_mem hlt)
      have htk := flat_take pte pats k hlt
      have hyl := pats_len (pats.take k) (fun p hp => o11.out p (List.mem_of_mem_take hp))
      rw [List.length_take, Nat.min_eq_left (by omega)] at hyl
      obtain ⟨⟨pg, pa, bs⟩, hpk⟩ : ∃ x, x = pats[k] := ⟨_, rfl⟩
      rw [← hpk] at g0 g1 g2 hpo htk
      simp only at g0 g1 g2
      have hso : short pg = true ∧ short pa = true ∧ bs.length ≤ 256 := by
        simp only [patOk, Bool.and_eq_true, decide_eq_true_eq] at hpo
        exact ⟨by simp [short]; omega, by simp [short]; omega, by omega⟩
      obtain ⟨s1, s2, s3⟩ := hso
      obtain ⟨y0, f0⟩ : ∃ y, y = x12 ++ (pats.take k).flatMap pte := ⟨_, rfl⟩
      rw [← f0] at i1
      have ly0 : y0.length ≤ 151000 := by rw [f0, List.length_append]; omega
      have nma := cell_of (i := 0) (nmL.out _ _ i1) rfl
      have nla := lt_of (nmL.out _ _ i1)
      have q0 := i1.push (.cells #[.int .i64 pg, .int .i64 pa, .string (mk bs)] 77)
      obtain ⟨y1, f1⟩ : ∃ y, y = y0 ++ n2 pg := ⟨_, rfl⟩
      have ly1 : y1.length ≤ 151002 := by rw [f1, List.length_append, n2_length]; omega
      have k1 := pb_num (ys := y1) q0 pg s1 (by omega) f1
      replace k1 := Lib.hid k1
      replace hpk := Lib.hid hpk
      replace htk := Lib.hid htk
      replace f0 := Lib.hid f0
      replace f1 := Lib.hid f1
      clear i1 q0 hpo hyl
      go_wp2_with fail
      refine k1.out.mono ?_
      rintro e wa ⟨rfl, q1⟩
      clear k1 nma nla
      have nmb := cell_of (i := 0) (nmL.out _ _ q1.pop) rfl
      have nlb := lt_of (nmL.out _ _ q1.pop)
      have v1 := cell_of (i := 1) q1.top rfl
      have vl1 := lt_of q1.top
      obtain ⟨y2, f2⟩ : ∃ y, y = y1 ++ n2 pa := ⟨_, rfl⟩
      have ly2 : y2.length ≤ 151004 := by rw [f2, List.length_append, n2_length]; omega
      have k2 := pb_num (ys := y2) q1 pa s2 (by omega) f2
      replace k2 := Lib.hid k2
      replace f2 := Lib.hid f2
      clear q1
      go_wp2_with fail
      refine k2.out.mono ?_
      rintro e wb ⟨rfl, q2⟩
      clear k2 nmb nlb v1 vl1
      have v2 := cell_of (i := 2) q2.top rfl
      have vl2 := lt_of q2.top
      obtain ⟨y3, f3⟩ : ∃ y, y = y2 ++ tt bs := ⟨_, rfl⟩
      have k3 := pb_text (ys := y3) q2 bs (by omega) (by omega) f3
      replace k3 := Lib.hid k3
      replace f3 := Lib.hid f3
      clear q2
      go_wp2_with fail
      refine k3.out.mono ?_
      rintro e wc ⟨rfl, q3⟩
      replace q3 := Lib.hid q3.pop
      clear k3 v2 vl2
      have hy3 : y3 = x12 ++ (pats.take (k + 1)).flatMap pte := by
        rw [htk.out, f3.out, f2.out, f1.out, f0.out]
        simp only [pte, List.append_assoc]
      rw [hy3] at q3
      clear hy3
      go_wp2
      go_roundg (pats.length - (k + 1))
      case rel => exact ⟨k + 1, by omega, by go_num, q3.out⟩
      case measure => omega
    · obtain rfl : k = pats.length := by omega
      rw [List.take_length] at i1
      obtain ⟨x13, e13⟩ : ∃ x, x = x12 ++ pats.flatMap pte := ⟨_, rfl⟩
      rw [← e13] at i1
      have hyl := pats_len pats o11.out
      have l13 : x13.length ≤ 151000 := by rw [e13, List.length_append]; omega
      have nma := cell_of (i := 0) (nmL.out _ _ i1) rfl
      have nla := lt_of (nmL.out _ _ i1)
      have d12a := cell_of (i := 12) (rcL.out _ _ i1) rfl
      have hla := lt_of (rcL.out _ _ i1)
      obtain ⟨x14, e14⟩ : ∃ x, x = x13 ++ n2 txs.length := ⟨_, rfl⟩
      have c14 := pb_num (ys := x14) i1 (txs.length : Int) (by simp [short]; omega) (by omega) e14
      have l14 : x14.length ≤ 151002 := by rw [e14, List.length_append, n2_length]; omega
      replace c14 := Lib.hid c14
      replace e13 := Lib.hid e13
      replace e14 := Lib.hid e14
      clear i1 hyl ht
      go_wp2_with fail
      refine c14.out.mono ?_
      rintro e w15 ⟨rfl, p14⟩
      clear c14 nma nla d12a hla
      have d12b := cell_of (i := 12) (rcL.out _ _ p14) rfl
      have hlb := lt_of (rcL.out _ _ p14)
      replace p14 := Lib.hid p14
      go_wp2
      go_loopg [109] txs.length (fun g i wr => ∃ k : Nat, g + k = txs.length ∧ i = .int .i64 k ∧ Aside (PB L w1.heap.size w wr (x14 ++ (txs.take k).flatMap txe)))
      case atStart => exact ⟨0, rfl, rfl, (show PB L w1.heap.size w w15 (x14 ++ (txs.take 0).flatMap txe) by simpa using p14.out)⟩
      case round =>
        obtain ⟨k, hk2, rfl, hI⟩ := hrel
        have i1 := hI.out
        clear hI d12b hlb p14
        by_cases hlt : k < txs.length
        · obtain ⟨b, o, u, rfl, g0, g1, g2, g3, gI⟩ := hx.out k hlt
          replace g0 := cell_more i1.wk.was.1 g0
          replace g1 := cell_more i1.wk.was.1 g1
          replace g2 := cell_more i1.wk.was.1 g2
          replace g3 := cell_more i1.wk.was.1 g3
          have hbl := World.block_lt_of_cell? wr _ g0
          have hpo := o12.out _ (List.getElem_mem hlt)
          have htk := flat_take txe txs k hlt
          have hyl := txs_len (txs.take k) (fun p hp => o12.out p (List.mem_of_mem_take hp))
          rw [List.length_take, Nat.min_eq_left (by omega)] at hyl
          obtain ⟨⟨tt1, tl, tc, tp⟩, hpk⟩ : ∃ x, x = txs[k] := ⟨_, rfl⟩
          rw [← hpk] at g0 g1 g2 gI hpo htk
          simp only at g0 g1 g2 gI
          have gI0 := gI
          obtain ⟨ua, uc, rfl, _⟩ := gI
          have hso : short tt1 = true ∧ long tl = true ∧ pagesOk tp = true := by simpa [txOk, and_assoc] using hpo
          obtain ⟨s1, s2, s3⟩ := hso
          have hpl : tp.length ≤ 64 := by simp only [pagesOk, Bool.and_eq_true, decide_eq_true_eq] at s3; exact s3.1
          obtain ⟨y0, f0⟩ : ∃ y, y = x14 ++ (txs.take k).flatMap txe := ⟨_, rfl⟩
          rw [← f0] at i1
          have ly0 : y0.length ≤ 153000 := by rw [f0, List.length_append]; omega
          have nma := cell_of (i := 0) (nmL.out _ _ i1) rfl
          have nla := lt_of (nmL.out _ _ i1)
          have q0 := i1.push (.cells #[.int .i64 tt1, .int .i64 tl, .bool tc, .slice ua tp.length uc] 79)
          obtain ⟨vb, hvb⟩ : ∃ vb, vb = wr.heap.size := ⟨_, rfl⟩
          obtain ⟨y1, f1⟩ : ∃ y, y = y0 ++ n2 tt1 := ⟨_, rfl⟩
          have ly1 : y1.length ≤ 153002 := by rw [f1, List.length_append, n2_length]; omega
          have k1 := pb_num (ys := y1) q0 tt1 s1 (by omega) f1
          replace k1 := Lib.hid k1
          replace hpk := Lib.hid hpk
          replace htk := Lib.hid htk
          replace f0 := Lib.hid f0
          replace f1 := Lib.hid f1
          replace gI0 := Lib.hid gI0
          replace hvb := Lib.hid hvb
          clear i1 q0 hpo hyl
          go_wp2_with fail
          refine k1.out.mono ?_
          rintro e wa ⟨rfl, q1⟩
          clear k1 nma nla
          have v1 := cell_of (i := 1) q1.top rfl
          have vl1 := lt_of q1.top
          obtain ⟨y2, f2⟩ : ∃ y, y = y1 ++ n4 tl := ⟨_, rfl⟩
          have ly2 : y2.length ≤ 153006 := by rw [f2, List.length_append, n4_length]; omega
          have k2 := pb_long (ys := y2) q1 tl s2 (by omega) f2
          replace k2 := Lib.hid k2
          replace f2 := Lib.hid f2
          clear q1
          go_wp2_with fail
          refine k2.out.mono ?_
          rintro e wb ⟨rfl, q2⟩
          clear k2 v1 vl1
          have nmb := cell_of (i := 0) (nmL.out _ _ q2.pop) rfl
          have nlb := lt_of (nmL.out _ _ q2.pop)
          have v2 := cell_of (i := 2) q2.top rfl
          have vl2 := lt_of q2.top
          have q2d := q2.more (Below.refl _ _).drew
          obtain ⟨yv2, hyv2⟩ : ∃ y : Int, y = if tc = true then 1 else 0 := ⟨_, rfl⟩
          obtain ⟨y3, f3⟩ : ∃ y, y = y2 ++ yes tc := ⟨_, rfl⟩
          have ly3 : y3.length ≤ 153008 := by rw [f3, List.length_append, yes, be_length]; omega
          have k3 := pb_num (ys := y3) q2d yv2 (by rw [hyv2]; cases tc <;> decide) (by omega) (by rw [f3, hyv2]; cases tc <;> rfl)
          have cy2 := yes_any tc
          rw [← hyv2] at cy2
          replace hyv2 := Lib.hid hyv2
          replace cy2 := Lib.hid cy2
          replace k3 := Lib.hid k3
          replace f3 := Lib.hid f3
          clear q2 q2d
          go_wp2
          go_region_held3 (fun x => x.cell? ⟨w1.heap.size + 1, 0, none⟩ = some (.func (.func 63) #[.pointer (some ⟨w1.heap.size, 0, none⟩)] #[]) ∧ x.cell? ⟨wr.heap.size, 2, none⟩ = some (.bool tc) ∧ w1.heap.size + 1 < x.heap.size ∧ wr.heap.size < x.heap.size) (first | assumption | (exact ⟨nmb, v2, nlb, vl2⟩) | (exact S6.out))
            (first | (go_at_call 67; refine (cy2.out _).mono ?_; rintro e w' ⟨rfl, rfl⟩) | (go_at_call 63; refine k3.out.mono ?_; rintro e wc ⟨rfl, q3⟩; have S6 := Lib.hid (And.intro (cell_of (i := 0) (nmL.out _ _ q3.pop) rfl) (And.intro (cell_of (i := 2) q3.top rfl) (And.intro (lt_of (nmL.out _ _ q3.pop)) (lt_of q3.top))))))
          clear k3 cy2 S6 nmb nlb v2 vl2
          have v3 := cell_of (i := 3) q3.top rfl
          have vl3 := lt_of q3.top
          obtain ⟨y4, f4⟩ : ∃ y, y = y3 ++ nums tp := ⟨_, rfl⟩
          have k4 := pb_numbers (ys := y4) q3 (List.mem_cons_of_mem _ inL.out) (.slice ua tp.length uc) tp s3 gI0.out (by omega) f4
          replace k4 := Lib.hid k4
          replace f4 := Lib.hid f4
          clear q3
          go_wp2_with fail
          refine k4.out.mono ?_
          rintro e wd ⟨rfl, q4⟩
          replace q4 := Lib.hid q4.pop
          clear k4 v3 vl3
          have hy4 : y4 = x14 ++ (txs.take (k + 1)).flatMap txe := by
            rw [htk.out, f4.out, f3.out, f2.out, f1.out, f0.out]
            simp only [txe, List.append_assoc]
          rw [hy4] at q4
          clear hy4
          go_wp2
          go_roundg (txs.length - (k + 1))
          case rel => exact ⟨k + 1, by omega, by go_num, q4.out⟩
          case measure => omega
        · obtain rfl : k = txs.length := by omega
          rw [List.take_length] at i1
          obtain ⟨x15, e15⟩ : ∃ x, x = x14 ++ txs.flatMap txe := ⟨_, rfl⟩
          rw [← e15] at i1
          have hyl := txs_len txs o12.out
          have l15 : x15.length ≤ 153000 := by rw [e15, List.length_append]; omega
          have nma := cell_of (i := 0) (nmL.out _ _ i1) rfl
          have nla := lt_of (nmL.out _ _ i1)
          have d13a := cell_of (i := 13) (rcL.out _ _ i1) rfl
          have hla := lt_of (rcL.out _ _ i1)
          obtain ⟨x16, e16⟩ : ∃ x, x = x15 ++ n2 dirty.length := ⟨_, rfl⟩
          have c16 := pb_num (ys := x16) i1 (dirty.length : Int) (by simp [short]; omega) (by omega) e16
          have l16 : x16.length ≤ 153002 := by rw [e16, List.length_append, n2_length]; omega
          replace c16 := Lib.hid c16
          replace e15 := Lib.hid e15
          replace e16 := Lib.hid e16
          clear i1 hyl hx
          go_wp2_with fail
          refine c16.out.mono ?_
          rintro e w17 ⟨rfl, p16⟩
          clear c16 nma nla d13a hla
          have d13b := cell_of (i := 13) (rcL.out _ _ p16) rfl
          have hlb := lt_of (rcL.out _ _ p16)
          replace p16 := Lib.hid p16
          go_wp2
          go_loopg [139] dirty.length (fun g i wr => ∃ k : Nat, g + k = dirty.length ∧ i = .int .i64 k ∧ Aside (PB L w1.heap.size w wr (x16 ++ (dirty.take k).flatMap die)))
          case atStart => exact ⟨0, rfl, rfl, (show PB L w1.heap.size w w17 (x16 ++ (dirty.take 0).flatMap die) by simpa using p16.out)⟩
          case round =>
            obtain ⟨k, hk3, rfl, hI⟩ := hrel
            have i1 := hI.out
            clear hI d13b hlb p16
            by_cases hlt : k < dirty.length
            · obtain ⟨b, o, rfl, g0, g1⟩ := hd.out k hlt
              replace g0 := cell_more i1.wk.was.1 g0
              replace g1 := cell_more i1.wk.was.1 g1
              have hbl := World.block_lt_of_cell? wr _ g0
              have hpo := o13.out _ (List.getElem_mem hlt)
              have htk := flat_take die dirty k hlt
              have hyl := dirs_len (dirty.take k)
              rw [List.length_take, Nat.min_eq_left (by omega)] at hyl
              obtain ⟨⟨dp, dl⟩, hpk⟩ : ∃ x, x = dirty[k] := ⟨_, rfl⟩
              rw [← hpk] at g0 g1 hpo htk
              simp only at g0 g1
              have hso : short dp = true ∧ long dl = true := by simpa [dirOk] using hpo
              obtain ⟨s1, s2⟩ := hso
              obtain ⟨y0, f0⟩ : ∃ y, y = x16 ++ (dirty.take k).flatMap die := ⟨_, rfl⟩
              rw [← f0] at i1
              have ly0 : y0.length ≤ 154000 := by rw [f0, List.length_append]; omega
              have nma := cell_of (i := 0) (nmL.out _ _ i1) rfl
              have nla := lt_of (nmL.out _ _ i1)
              have q0 := i1.push (.cells #[.int .i64 dp, .int .i64 dl] 84)
              obtain ⟨y1, f1⟩ : ∃ y, y = y0 ++ n2 dp := ⟨_, rfl⟩
              have ly1 : y1.length ≤ 154002 := by rw [f1, List.length_append, n2_length]; omega
              have k1 := pb_num (ys := y1) q0 dp s1 (by omega) f1
              replace k1 := Lib.hid k1
              replace hpk := Lib.hid hpk
              replace htk := Lib.hid htk
              replace f0 := Lib.hid f0
              replace f1 := Lib.hid f1
              clear i1 q0 hpo hyl
              go_wp2_with fail
              refine k1.out.mono ?_
              rintro e wa ⟨rfl, q1⟩
              clear k1 nma nla
              have v1 := cell_of (i := 1) q1.top rfl
              have vl1 := lt_of q1.top
              obtain ⟨y2, f2⟩ : ∃ y, y = y1 ++ n4 dl := ⟨_, rfl⟩
              have k2 := pb_long (ys := y2) q1 dl s2 (by omega) f2
              replace k2 := Lib.hid k2
              replace f2 := Lib.hid f2
              clear q1
              go_wp2_with fail
              refine k2.out.mono ?_
              rintro e wb ⟨rfl, q2⟩
              replace q2 := Lib.hid q2.pop
              clear k2 v1 vl1
              have hy2 : y2 = x16 ++ (dirty.take (k + 1)).flatMap die := by
                rw [htk.out, f2.out, f1.out, f0.out]
                simp only [die, List.append_assoc]
              rw [hy2] at q2
              clear hy2
              go_wp2
              go_roundg (dirty.length - (k + 1))
              case rel => exact ⟨k + 1, by omega, by go_num, q2.out⟩
              case measure => omega
            · obtain rfl : k = dirty.length := by omega
              rw [List.take_length] at i1
              have hend : x16 ++ dirty.flatMap die = fin := by
                rw [hfin.out, e16.out, e15.out, e14.out, e13.out, e12.out, e11.out, e10.out, e9.out, e8.out, e7.out, e6.out, e5.out, e4.out, e3.out, e2.out, e1.out, e0.out, n2_len, n2_len, n2_len]
                simp only [enc, List.append_assoc, List.nil_append]
              rw [hend] at i1
              have cD := kDone i1.wk
              have hw := i1.wk.was.1
              replace cD := Lib.hid cD
              replace hw := Lib.hid hw
              clear i1 hend hd
              go_wp2_with fail
              refine cD.out.mono ?_
              rintro e w' ⟨rfl, rfl⟩
              go_wp2
              go_ret2
              exact ⟨rfl, hw.out⟩
theorem put_any (v vp vt vx vd : Value) (r : Rec) (w : World) (hT : Tab w) (h : RecAt w v vp vt vx vd r) : Calls Tryd.prog 32 #[v] w fun e w' => e = .returned (.tuple #[.string (mk (if recOk r = true then enc r else [])), .bool (recOk r)]) ∧ Below w.heap.size w w' := by
  cases hok : recOk r with
  | true => exact put_yes v vp vt vx vd r w hT h ((recOk_iff r).1 hok)
  | false => exact put_no v vp vt vx vd r w hT h hok
end Go.Proofs.YtofejnhnnmnfpaaDoor.Rc
