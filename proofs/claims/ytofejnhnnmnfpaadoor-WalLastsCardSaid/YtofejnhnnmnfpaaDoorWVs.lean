/- A first call whose answer the document fixes. No condition but the table of spaces. -/
import Derived.Test.YtofejnhnnmnfpaaDoorWlS
namespace Go.Proofs.YtofejnhnnmnfpaaDoor
set_option maxRecDepth 100000
open Go.RowKit
theorem lapp_ok {L : Lg} {r : Rc.Rec} (hr : Rc.RecOk r) (hc : L.end_ + lcnt (L.wait ++ [Rc.enc r]) ≤ L.secs) : lapp L r = ({ L with l := L.l ++ [r], wait := L.wait ++ [Rc.enc r] }, (L.l.length : Int) + 1, 0) := by
  rw [lapp, (Rc.recOk_iff r).2 hr, if_neg (by decide), if_neg (by omega)]
theorem lapp_full {L : Lg} {r : Rc.Rec} (hr : Rc.RecOk r) (hc : L.secs < L.end_ + lcnt (L.wait ++ [Rc.enc r])) : lapp L r = (L, 0, 7) := by
  rw [lapp, (Rc.recOk_iff r).2 hr, if_neg (by decide), if_pos (by omega)]
/-- How long the stream is that waits. -/
theorem On.stream_le {d : Dq.Dk} {L : Lg} {S : List (List UInt8)} {s : Fr.St} (h : On d L S s) : (Fr.stream L.wait).length ≤ 224000 := by
  have h1 := h.fit
  have h2 := h.secs
  rw [lcnt_ok h.waitOk, Fr.cnt] at h1
  omega
theorem isI_nil (w : World) : Rc.IsI w (.slice none 0 0) [] := ⟨none, 0, rfl, fun j h => by simp at h⟩
theorem isP_nil (w : World) : Rc.IsP w (.slice none 0 0) [] := ⟨none, 0, rfl, fun j h => by simp at h⟩
theorem isT_nil (w : World) : Rc.IsT w (.slice none 0 0) [] := ⟨none, 0, rfl, fun j h => by simp at h⟩
theorem isD_nil (w : World) : Rc.IsD w (.slice none 0 0) [] := ⟨none, 0, rfl, fun j h => by simp at h⟩
/-- A record of a kind, a transaction, a key. -/
def rK (k t : Int) (key : List UInt8) : Rc.Rec := ⟨k, t, 0, 0, key, false, ⟨[], [], 0, 0⟩, [], [], [], []⟩
theorem rK_at (k t : Int) (key : List UInt8) (w : World) : Rc.RecAt w (.agg #[.int .i64 k, .int .i64 t, .int .i64 0, .int .i64 0, .string (mk key), .bool false, .string ⟨#[]⟩, .string ⟨#[]⟩, .int .i64 0, .int .i64 0, .slice none 0 0, .slice none 0 0, .slice none 0 0, .slice none 0 0]) (.slice none 0 0) (.slice none 0 0) (.slice none 0 0) (.slice none 0 0) (rK k t key) :=
  ⟨rfl, isI_nil w, isP_nil w, isT_nil w, isD_nil w⟩
theorem rK_ok {k t : Int} {key : List UInt8} (h1 : 1 ≤ k ∧ k ≤ 7) (h2 : 0 ≤ t ∧ t ≤ 65535) (h3 : key.length ≤ 255) : Rc.RecOk (rK k t key) :=
  { kind := h1, tx := by show Rc.short t = true; simp [Rc.short]; omega, prev := by show Rc.long 0 = true; decide, next := by show Rc.long 0 = true; decide, key := h3, old := .inl rfl, pages := by show Rc.pagesOk [] = true; decide, pats := Nat.zero_le _, txs := Nat.zero_le _, dirty := Nat.zero_le _, patsOk := (fun p hp => by cases hp), txsOk := (fun p hp => by cases hp), dirtyOk := (fun p hp => by cases hp) }
theorem rK_len (k t : Int) (key : List UInt8) : (Rc.enc (rK k t key)).length = 32 + key.length := by
  rw [Rc.enc_length]
  simp [rK]
set_option maxHeartbeats 1600000 in
theorem alive_true (w : World) (hT : Rc.Tab w) : Calls Tryd.prog 9 #[] w fun e w' => e = .returned (.bool true) ∧ Below w.heap.size w w' := by
  have hon := on_new 200 2 64 1 (by omega) (by omega) (by omega) (by omega)
  have ok4 : Rc.RecOk (rK 4 1 []) := rK_ok (by omega) (by omega) (by simp)
  have ok5 : Rc.RecOk (rK 5 1 []) := rK_ok (by omega) (by omega) (by simp)
  have l4 := rK_len 4 1 []
  have l5 := rK_len 5 1 []
  obtain ⟨e4, he4⟩ : ∃ e4, e4 = Rc.enc (rK 4 1 []) := ⟨_, rfl⟩
  obtain ⟨e5, he5⟩ : ∃ e5, e5 = Rc.enc (rK 5 1 []) := ⟨_, rfl⟩
  rw [← he4] at l4
  rw [← he5] at l5
  have hro : ∀ l, (∀ b ∈ l, b = e4 ∨ b = e5) → Fr.recsOk l := fun l h b hb => by
    rcases h b hb with e | e
    · rw [e, l4]; simp
    · rw [e, l5]; simp
  have n1 : lcnt [e4] = 1 := by
    rw [lcnt_ok (hro _ (by simp)), Fr.cnt]
    simp [Fr.stream, Fr.be_length, l4]
  have n2 : lcnt [e4, e5] = 2 := by
    rw [lcnt_ok (hro _ (by simp)), Fr.cnt]
    simp [Fr.stream, Fr.be_length, l4, l5]
  have a1 := lapp_ok (L := ⟨2, 64, 1, [], [], 0⟩) ok4 (by rw [← he4]; show 0 + lcnt ([] ++ [e4]) ≤ 64; rw [List.nil_append, n1]; omega)
  have on1 := hon.app ok4 (by rw [← he4]; show 0 + lcnt ([] ++ [e4]) ≤ 64; rw [List.nil_append, n1]; omega)
  have a2 := lapp_ok (L := ⟨2, 64, 1, [rK 4 1 []], [e4], 0⟩) ok5 (by rw [← he5]; show 0 + lcnt ([e4] ++ [e5]) ≤ 64; rw [show [e4] ++ [e5] = [e4, e5] from rfl, n2]; omega)
  rw [← he4] at a1 on1
  simp only [List.nil_append, List.length_nil] at a1 on1
  rw [show ((0 : Nat) : Int) + 1 = 1 from rfl] at a1
  have on2 := on1.app ok5 (by rw [← he5]; show 0 + lcnt ([e4] ++ [e5]) ≤ 64; rw [show [e4] ++ [e5] = [e4, e5] from rfl, n2]; omega)
  rw [← he5] at a2 on2
  simp only [List.cons_append, List.nil_append, List.length_cons, List.length_nil] at a2 on2
  rw [show ((0 + 1 : Nat) : Int) + 1 = 2 from rfl] at a2
  obtain ⟨d', s', f1, on3, f3, f4⟩ := on2.flushed (by simp) (.inl rfl)
  simp only [n2] at f1 on3
  have on4 := on3.opened 2 (by have := on3.slast; simp only at this; omega) (by have := on3.sep; simp only at this; omega) (by omega) 2 rfl
  simp only [List.take_succ_cons, List.take_zero] at on4
  replace hon := Lib.hid hon
  replace a1 := Lib.hid a1
  replace a2 := Lib.hid a2
  replace f1 := Lib.hid f1
  replace on1 := Lib.hid on1
  replace on2 := Lib.hid on2
  replace on4 := Lib.hid on4
  replace he4 := Lib.hid he4
  replace he5 := Lib.hid he5
  have on3l := Lib.hid on3.slast
  have on3p := Lib.hid on3.pend
  clear hro n1 n2 l4 l5 f3 f4 on3
  go_enter Tryd.func9, Tryd.ntmps9
  go_wp2_with fail
  refine (Dq.iNew (H := w.heap.size) (w0 := w) 200 (by omega) (by omega) (Below.refl _ _) (Nat.le_refl _)).mono ?_
  rintro e w1 ⟨B, rfl, hD⟩
  have b1 := hD.was.1
  have hT1 := hT.more b1
  replace hD := Lib.hid hD
  go_wp2_with fail
  refine (sOpen hT1 hD.out hon.out rfl (by show 0 < 1; omega)).mono ?_
  rintro e w2 ⟨G, rfl, hS, b2⟩
  have hT2 := hT1.more b2
  replace hS := Lib.hid hS
  clear b1 b2 hT1 hD
  go_wp2_with fail
  refine (sAppend hS.out hT2 (rK_at 4 1 [] w2) (by simp) (by simp) (by simp) (by simp [Fr.stream]) a1.out).mono ?_
  rintro e w3 ⟨rfl, hS3⟩
  have hT3 : Rc.Tab w3 := hT.more hS3.was.1
  replace hS3 := Lib.hid hS3
  clear hS hT2
  go_wp2_with fail
  refine (sAppend hS3.out hT3 (rK_at 5 1 [] w3) (by simp) (by simp) (by simp) (by have := on1.out.stream_le; omega) a2.out).mono ?_
  rintro e w4 ⟨rfl, hS4⟩
  replace hS4 := Lib.hid hS4
  clear hS3 hT3
  go_wp2_with fail
  refine (sLast hS4.out).mono ?_
  rintro e w5 ⟨rfl, rfl⟩
  go_wp2_with fail
  refine (sDurable hS4.out (by simp) (by simp)).mono ?_
  rintro e w5 ⟨rfl, b5⟩
  have hS5 := Lib.hid (hS4.out.more b5)
  clear hS4 b5
  go_wp2_with fail
  refine (sFlush hS5.out (by have := on2.out.stream_le; omega) (by simp) (by simp) (by simp) (by show (Dq.dnew 200).pend.length ≤ 900000; exact Nat.zero_le _) f1.out).mono ?_
  rintro e w6 ⟨rfl, hS6⟩
  replace hS6 := Lib.hid hS6
  clear hS5
  go_wp2_with fail
  refine (sDurable hS6.out (by simp) (by simp)).mono ?_
  rintro e w7 ⟨rfl, b7⟩
  have hS7 := Lib.hid (hS6.out.more b7)
  clear hS6 b7
  have hT7 := hT.more hS7.out.was.1
  go_wp2_with fail
  refine (sOpen hT7 hS7.out.din on4.out rfl (by show s'.last < 2; have : s'.last ≤ 1 := on3l.out; omega)).mono ?_
  rintro e w8 ⟨G2, rfl, hM8, b8⟩
  have hS8 := Lib.hid (hS7.out.more b8)
  have hT8 := hT7.more b8
  replace hM8 := Lib.hid hM8
  clear hS7 b8 hT7
  have C := sAt_yes hM8.out hT8 1 (by simp) (by simp) (rK 5 1 []) rfl ok5
  rw [show ((1 : Nat) : Int) + 1 = 2 from rfl] at C
  replace C := Lib.hid C
  go_wp2_with fail
  refine C.out.mono ?_
  rintro e w9 ⟨a1', c1', a2', c2', a3', c3', a4', c4', rfl, hR9, b9⟩
  obtain ⟨oR, hoR⟩ : ∃ oR, oR = Obj.cells #[.int .i64 (rK 5 1 []).kind, .int .i64 (rK 5 1 []).tx, .int .i64 (rK 5 1 []).prev, .int .i64 (rK 5 1 []).next, .string (mk (rK 5 1 []).key), .bool (rK 5 1 []).had, .string (mk (rK 5 1 []).old.key), .string (mk (rK 5 1 []).old.val), .int .i64 (rK 5 1 []).old.blob, .int .i64 (rK 5 1 []).old.size, .slice a1' (rK 5 1 []).pages.length c1', .slice a2' (rK 5 1 []).pats.length c2', .slice a3' (rK 5 1 []).txs.length c3', .slice a4' (rK 5 1 []).dirty.length c4'] 37 := ⟨_, rfl⟩
  have q9 := b9.alloc b9.size oR
  have hM9 := hM8.out.more q9
  have hS9 := hS8.out.more q9
  have h50 : (w9.alloc oR).cell? ⟨w9.heap.size, 0, none⟩ = some (.int .i64 5) := by rw [hoR]; exact cell_of (heap_alloc_new w9 _) rfl
  rw [hoR] at hM9 hS9 h50
  have hkd : (rK 5 1 []).kind = 5 := rfl
  replace hM9 := Lib.hid hM9
  replace hS9 := Lib.hid hS9
  clear hoR q9 b9 hR9 hM8 hS8 hT8 C
  go_wp2_with fail
  refine (sLast hM9.out).mono ?_
  rintro e w10 ⟨rfl, hz⟩
  obtain rfl := hz.symm
  clear hz
  go_wp2_with fail
  refine (sLeft hM9.out (by simp) (by simp) (by simp [Fr.stream])).mono ?_
  rintro e w11 ⟨rfl, b11⟩
  have hS11 := Lib.hid (hS9.out.more b11)
  clear b11 h50
  go_wp2_with fail
  refine (sLeft hS11.out (by simp) (by simp) (by simp [Fr.stream])).mono ?_
  rintro e w12 ⟨rfl, b12⟩
  have hfin := Lib.hid (hS11.out.more b12).was.1
  clear b12
  go_wp2
  go_ret
  exact ⟨rfl, hfin.out⟩
end Go.Proofs.YtofejnhnnmnfpaaDoor
/- A disk and a log on it: crash, pending; a log whose records are all of one size. No condition. -/
namespace Go.Proofs.YtofejnhnnmnfpaaDoor
set_option maxRecDepth 100000
open Go.RowKit
section
variable {K : Nat → Prop} {H B G : Nat} {w0 w w' : World} {d d' : Dq.Dk} {L L' : Lg} {S : List (List UInt8)} {s : Fr.St}
theorem sCrash (ak : Option Addr) (ck : Nat) (ks : List Bool) (hv : Dq.BAt w ak ks) (hks : ks.length ≤ 1000000) (h : Sys K H w0 w B d G L) : Calls Tryd.prog 24 #[.pointer (some ⟨B, 0, none⟩), .slice ak ks.length ck] w fun e w' => e = .returned (.int .i64 ((Dq.dcrash d ks).2 : Nat)) ∧ Sys K H w0 w' B (Dq.dcrash d ks).1 G L := by
  obtain ⟨rs, rp, m, T, hd, hl, g1, g2, g3, g4⟩ := h
  refine (Dq.kCrash ak ck ks hd hv hks).mono ?_
  rintro e w' ⟨he, hp⟩
  exact ⟨he, sys_disk hl g1 g2 g3 g4 hp⟩
theorem sPending (h : Sys K H w0 w B d G L) : Calls Tryd.prog 25 #[.pointer (some ⟨B, 0, none⟩)] w fun e w' => e = .returned (.int .i64 (d.pend.length : Int)) ∧ w = w' := by
  obtain ⟨rs, rp, m, T, hd, _⟩ := h
  exact Dq.kPending hd
/-- The same sectors, another disk. -/
theorem On.same (h : On d L S s) (h1 : d'.safe = d.safe) (h2 : d'.pend = []) (h3 : d'.dead = false) : On d' L S s :=
  ⟨h3, h2, by rw [h1]; exact h.size, by rw [h1]; exact h.room, h.secs, h.ep, h.len, h.fit, by rw [h1]; exact h.sec, by rw [h1]; exact h.rest, h.scan, h.sat, h.send, h.sep, h.slast, h.sl, h.ok⟩
/-- All that waits is laid down, if anything does. -/
theorem On.flush_any (h : On d L S s) (hs : d.stops = false) : ∃ d' S' s', lflush L d = ({ L with wait := [], end_ := L.end_ + lcnt L.wait }, d', 0) ∧ On d' { L with wait := [], end_ := L.end_ + lcnt L.wait } S' s' ∧ d'.stops = false ∧ d'.safe.length = d.safe.length := by
  by_cases hw : L.wait = []
  · have h0 : lcnt [] = 0 := rfl
    have e : ({ L with wait := [], end_ := L.end_ + lcnt L.wait } : Lg) = L := by
      obtain ⟨f, se, ep, l, wt, en⟩ := L
      simp only at hw
      subst hw
      simp [h0]
    rw [e]
    exact ⟨d, S, s, by rw [lflush, if_pos hw], h, hs, rfl⟩
  · obtain ⟨d', s', f1, on3, f3, f4⟩ := h.flushed hw (.inl hs)
    exact ⟨d', _, s', f1, on3, by rw [f3]; exact hs, f4⟩
theorem dcrash_none (h : d.pend = []) (ks : List Bool) : (Dq.dcrash d ks).1.safe = d.safe ∧ (Dq.dcrash d ks).1.pend = [] ∧ (Dq.dcrash d ks).1.dead = false ∧ (Dq.dcrash d ks).1.stops = false := by
  refine ⟨?_, rfl, rfl, rfl⟩
  show Dq.dset d.safe (Dq.keptOf d.pend ks) = d.safe
  rw [h]
  rfl
end
/-- Records of one size. -/
theorem stream_all (n : Nat) : ∀ (l : List (List UInt8)), (∀ b ∈ l, b.length = n) → (Fr.stream l).length = l.length * (2 + n)
  | [], _ => by simp [Fr.stream]
  | b :: l, h => by
    rw [Fr.stream_cons, List.length_append, List.length_append, Fr.be_length, h b (by simp), stream_all n l (fun c hc => h c (by simp [hc])), List.length_cons, Nat.succ_mul]
    omega
theorem lcnt_all (n : Nat) (hn : 1 ≤ n) (hn' : n ≤ 65535) (l : List (List UInt8)) (h : ∀ b ∈ l, b.length = n) : lcnt l = (l.length * (2 + n) + 55) / 56 := by
  rw [lcnt_ok (fun b hb => by rw [h b hb]; exact ⟨hn, hn'⟩), Fr.cnt, stream_all n l h]
end Go.Proofs.YtofejnhnnmnfpaaDoor
/- What the laws' walks share: numbers in their range, bytes that are made. No condition. -/
namespace Go.Proofs.YtofejnhnnmnfpaaDoor
set_option maxRecDepth 100000
open Go.RowKit
theorem wf_i64 {n : Int} (h : (Lit.int .i64 n).wf = true) : -9223372036854775808 ≤ n ∧ n ≤ 9223372036854775807 := by
  simp [Lit.wf] at h
  have e : IntKind.i64.min = -9223372036854775808 := by decide
  have e2 : IntKind.i64.max = 9223372036854775807 := by decide
  omega
theorem infoU8w : (Tryd.prog.info? 5).map (fun i => (i.zero, i.size, i.bytes)) = some (some (.int .u8 0), 1, 1) := by kernel_rfl
theorem zeros_madeW {w w1 : World} {n : Nat} (hown : w1.ownsRow w.heap.size 5 1 (.slice (some ⟨w.heap.size, 0, none⟩) n n) n (madeCells (Value.int .u8 0).cells (n * 1)).toList) (hgrow : w.grownBy w1 none) :
    Below w.heap.size w w1 ∧ (convert 29 9 (.slice (some ⟨w.heap.size, 0, none⟩) n n)).run Tryd.prog w1 = .ok (.string (mk (List.replicate n 0))) w1 := by
  refine ⟨(Below.refl _ _).grown hgrow (Nat.le_refl _) (fun _ h => by cases h), ?_⟩
  rw [show (Value.int .u8 0).cells = #[Value.int .u8 0] from rfl, toList_madeCells_one, Nat.mul_one] at hown
  refine run_string_own 29 9 Tryd.underlying29 Tryd.underlying5 Tryd.underlying9 (base := w.heap.size) (n := n) ?_
  have e : bcells (List.replicate n 0) = List.replicate n (Value.int .u8 0) := by simp [bcells]
  rw [e]
  exact hown
end Go.Proofs.YtofejnhnnmnfpaaDoor
