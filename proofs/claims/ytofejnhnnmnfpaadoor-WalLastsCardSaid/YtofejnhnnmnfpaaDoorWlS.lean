/- A disk and a log on it: all methods, what was there ahead of the call told in one word. No condition but the table of spaces. -/
import Derived.Test.YtofejnhnnmnfpaaDoorWlO
import Derived.Test.YtofejnhnnmnfpaaDoorWlF
import Derived.Test.YtofejnhnnmnfpaaDoorWlT
namespace Go.Proofs.YtofejnhnnmnfpaaDoor
set_option maxRecDepth 100000
open Go.RowKit
section
variable {K : Nat → Prop} {H B G G' : Nat} {w0 w w' : World} {d d' : Dq.Dk} {L L' : Lg}
theorem Sys.lx (h : Sys K H w0 w B d G L) : ∃ T vl vw ps, LX w B G T L vl vw ps := by
  obtain ⟨_, _, _, T, _, ⟨vl, vw, ps, hl⟩, _⟩ := h
  exact ⟨T, vl, vw, ps, hl⟩
theorem sLast (h : Sys K H w0 w B d G L) : Calls Tryd.prog 14 #[.pointer (some ⟨G, 0, none⟩)] w fun e w' => e = .returned (.int .i64 (L.l.length : Int)) ∧ w = w' := by
  obtain ⟨_, _, _, _, h⟩ := h.lx; exact xLast h
theorem sEpoch (h : Sys K H w0 w B d G L) : Calls Tryd.prog 16 #[.pointer (some ⟨G, 0, none⟩)] w fun e w' => e = .returned (.int .i64 (L.epoch : Int)) ∧ w = w' := by
  obtain ⟨_, _, _, _, h⟩ := h.lx; exact xEpoch h
theorem sDurable (h : Sys K H w0 w B d G L) (h1 : L.l.length ≤ 1000000) (h2 : L.wait.length ≤ L.l.length) : Calls Tryd.prog 17 #[.pointer (some ⟨G, 0, none⟩)] w fun e w' => e = .returned (.int .i64 ((L.l.length - L.wait.length : Nat) : Int)) ∧ Below w.heap.size w w' := by
  obtain ⟨_, _, _, _, h⟩ := h.lx; exact xDurable h h1 h2
theorem sLeft (h : Sys K H w0 w B d G L) (h1 : L.secs ≤ 4000) (h2 : L.end_ ≤ 4000) (h3 : (Fr.stream L.wait).length ≤ 1000000) : Calls Tryd.prog 13 #[.pointer (some ⟨G, 0, none⟩)] w fun e w' => e = .returned (.int .i64 ((L.secs : Int) - L.end_ - lcnt L.wait)) ∧ Below w.heap.size w w' := by
  obtain ⟨_, _, _, _, h⟩ := h.lx; exact xLeft h h1 h2 h3
theorem sAppend {v vp vt vx vd : Value} {r : Rc.Rec} (h : Sys K H w0 w B d G L) (hT : Rc.Tab w) (hr : Rc.RecAt w v vp vt vx vd r) (h1 : L.l.length ≤ 100000) (h2 : L.secs ≤ 4000) (h3 : L.end_ ≤ 4000) (h4 : (Fr.stream L.wait).length ≤ 400000) {n x : Int} (q : lapp L r = (L', n, x)) :
    Calls Tryd.prog 12 #[.pointer (some ⟨G, 0, none⟩), v] w fun e w' => e = .returned (.tuple #[.int .i64 n, .int .i64 x]) ∧ Sys K H w0 w' B d G L' := by
  obtain ⟨rs, rp, m, T, hd, ⟨vl, vw, ps, hl⟩, g1, g2, g3, g4⟩ := h
  refine (xAppend v vp vt vx vd r hT hr hl h1 h2 h3 h4 q).mono ?_
  rintro e w' ⟨he, T', hl', hc, hT'⟩
  exact ⟨he, sys_log hd g1 g2 g3 g4 hc hl' hT'⟩
theorem sAt_yes (h : Sys K H w0 w B d G L) (hT : Rc.Tab w) (k : Nat) (hk : k < L.l.length) (hl : L.l.length ≤ 1000000) (r : Rc.Rec) (hr : r = L.l[k]) (hok : Rc.RecOk r) :
    Calls Tryd.prog 21 #[.pointer (some ⟨G, 0, none⟩), .int .i64 ((k : Int) + 1)] w (AtP r w) := by
  obtain ⟨_, _, _, _, h⟩ := h.lx; exact xAt_yes h hT k hk hl r hr hok
theorem sAt_no (h : Sys K H w0 w B d G L) (n : Int) (hn : n < 1 ∨ (L.l.length : Int) < n) :
    Calls Tryd.prog 21 #[.pointer (some ⟨G, 0, none⟩), .int .i64 n] w fun e w' => e = .returned (.tuple #[Rc.zrec, .bool false]) ∧ Below w.heap.size w w' := by
  obtain ⟨_, _, _, _, h⟩ := h.lx; exact xAt_no h n hn
/-- To. -/
def lto (L : Lg) (d : Dq.Dk) (n : Int) : Lg × Dq.Dk × Int := if ((L.l.length - L.wait.length : Nat) : Int) < n then lflush L d else (L, d, 0)
theorem sTo (n : Int) (h : Sys K H w0 w B d G L) (h0 : L.l.length ≤ 1000000) (h0' : L.wait.length ≤ L.l.length) (h1 : (Fr.stream L.wait).length ≤ 400000) (h2 : L.first ≤ 100000) (h3 : L.end_ ≤ 4000) (h4 : L.epoch ≤ 4294967295) (h5 : d.pend.length ≤ 900000) {x : Int} (q : lto L d n = (L', d', x)) :
    Calls Tryd.prog 20 #[.pointer (some ⟨G, 0, none⟩), .int .i64 n] w (FluP K H w0 B d' G L' x) := by
  have C := Lib.hid (sDurable h h0 h0')
  obtain ⟨m, hm⟩ : ∃ m, m = L.l.length - L.wait.length := ⟨_, rfl⟩
  rw [lto, ← hm] at q
  rw [← hm] at C
  replace hm := Lib.hid hm
  by_cases hn : (m : Int) < n
  · rw [if_pos hn] at q
    go_enter Tryd.func20, Tryd.ntmps20
    go_wp2_with fail
    refine C.out.mono ?_
    rintro e w1 ⟨rfl, b1⟩
    have F := sFlush (h.more b1) h1 h2 h3 h4 h5 q
    replace F := Lib.hid F
    clear q C h
    go_wp2_with fail
    refine F.out.mono ?_
    rintro e w2 ⟨rfl, hS⟩
    replace hS := Lib.hid hS
    go_wp2
    go_ret
    exact ⟨rfl, hS.out⟩
  · rw [if_neg hn] at q
    cases q
    go_enter Tryd.func20, Tryd.ntmps20
    go_wp2_with fail
    refine C.out.mono ?_
    rintro e w1 ⟨rfl, b1⟩
    have hS := Lib.hid (h.more b1)
    clear C h
    go_wp2
    go_ret
    exact ⟨rfl, hS.out⟩
theorem sStop (n : Int) (hn : n ≤ 9223372036854775807) (hn0 : -9223372036854775808 ≤ n) (h : Sys K H w0 w B d G L) : Calls Tryd.prog 23 #[.pointer (some ⟨B, 0, none⟩), .int .i64 n] w fun e w' => e = .returned (.tuple #[]) ∧ Sys K H w0 w' B (Dq.dstop d n) G L := by
  obtain ⟨rs, rp, m, T, hd, hl, g1, g2, g3, g4⟩ := h
  refine (Dq.kStop n hd hn hn0).mono ?_
  rintro e w' ⟨he, hp⟩
  exact ⟨he, sys_disk hl g1 g2 g3 g4 hp⟩
/-- Arguments that may not be. -/
theorem xOpen_arg {first secs epoch : Int} (h : Dq.DIn H w0 w B d) (_ : -9223372036854775808 ≤ first ∧ first ≤ 9223372036854775807) (hbad : secs < 1 ∨ 4000 < secs ∨ first < 0 ∨ (d.safe.length : Int) - secs < first ∨ epoch < 1 ∨ 4294967295 < epoch) :
    Calls Tryd.prog 11 #[.pointer (some ⟨B, 0, none⟩), .int .i64 first, .int .i64 secs, .int .i64 epoch] w fun e w' => e = .returned (.tuple #[.pointer none, .int .i64 1]) ∧ w = w' := by
  have hlen := h.ok.few
  have C := Lib.hid (Dq.iSectors h)
  by_cases c1 : secs < 1
  · clear hbad
    go_enter Tryd.func11, Tryd.ntmps11
    go_wp2
    go_ret2
    exact ⟨rfl, rfl⟩
  by_cases c2 : 4000 < secs
  · clear hbad
    go_enter Tryd.func11, Tryd.ntmps11
    go_wp2
    go_ret2
    exact ⟨rfl, rfl⟩
  by_cases c3 : first < 0
  · clear hbad
    go_enter Tryd.func11, Tryd.ntmps11
    go_wp2
    go_ret2
    exact ⟨rfl, rfl⟩
  by_cases c4 : (d.safe.length : Int) - secs < first
  · clear hbad
    go_enter Tryd.func11, Tryd.ntmps11
    go_wp2_with fail
    refine C.out.mono ?_
    rintro e w1 ⟨rfl, rfl⟩
    go_wp2
    go_ret2
    exact ⟨rfl, rfl⟩
  by_cases c5 : epoch < 1
  · clear hbad
    go_enter Tryd.func11, Tryd.ntmps11
    go_wp2_with fail
    refine C.out.mono ?_
    rintro e w1 ⟨rfl, rfl⟩
    go_wp2
    go_ret2
    exact ⟨rfl, rfl⟩
  · have c6 : 4294967295 < epoch := by omega
    clear hbad
    go_enter Tryd.func11, Tryd.ntmps11
    go_wp2_with fail
    refine C.out.mono ?_
    rintro e w1 ⟨rfl, rfl⟩
    go_wp2
    go_ret2
    exact ⟨rfl, rfl⟩
/-- Open, in terms of what lies on the disk. -/
theorem yOpen {S : List (List UInt8)} {s : Fr.St} (hT : Rc.Tab w) (h : Dq.DIn H w0 w B d) (ho : On d L S s) (hw : L.wait = []) (hl : s.last < L.epoch) :
    Calls Tryd.prog 11 #[.pointer (some ⟨B, 0, none⟩), .int .i64 (L.first : Int), .int .i64 (L.secs : Int), .int .i64 (L.epoch : Int)] w fun e w' => ∃ G T, e = .returned (.tuple #[.pointer (some ⟨G, 0, none⟩), .int .i64 0]) ∧ LAt w' B G T L ∧ (∀ k, T k → w.heap.size ≤ k) ∧ Below w.heap.size w w' := by
  have hx : s.l = L.l.map Rc.enc := by rw [← ho.sl, hw, List.append_nil]
  refine (xOpen hT h ho.secs.1 ho.secs.2 ho.room ho.ep.1 ho.ep.2 ho.live ho.scanned hl hx ho.ok).mono ?_
  rintro e w' ⟨G, T, he, hs, ht, hb⟩
  refine ⟨G, T, he, ?_, ht, hb⟩
  have e1 : (⟨L.first, L.secs, L.epoch, L.l, [], s.end_⟩ : Lg) = L := by rw [ho.send, ← hw]
  rw [e1] at hs
  exact hs
theorem sOpen {S : List (List UInt8)} {s : Fr.St} (hT : Rc.Tab w) (h : Dq.DIn H w0 w B d) (ho : On d L S s) (hw : L.wait = []) (hl : s.last < L.epoch) :
    Calls Tryd.prog 11 #[.pointer (some ⟨B, 0, none⟩), .int .i64 (L.first : Int), .int .i64 (L.secs : Int), .int .i64 (L.epoch : Int)] w fun e w' => ∃ G, e = .returned (.tuple #[.pointer (some ⟨G, 0, none⟩), .int .i64 0]) ∧ Sys No H w0 w' B d G L ∧ Below w.heap.size w w' :=
  (yOpen hT h ho hw hl).mono fun _ _ ⟨G, _, he, hs, ht, hb⟩ => ⟨G, he, Sys.make h hs ht hb, hb⟩
/-- Open, beside a log that is there. -/
theorem sOpenK {S : List (List UInt8)} {s : Fr.St} (hT : Rc.Tab w) (h : Sys K H w0 w B d G' L') (ho : On d L S s) (hw : L.wait = []) (hl : s.last < L.epoch) :
    Calls Tryd.prog 11 #[.pointer (some ⟨B, 0, none⟩), .int .i64 (L.first : Int), .int .i64 (L.secs : Int), .int .i64 (L.epoch : Int)] w fun e w' => ∃ G, e = .returned (.tuple #[.pointer (some ⟨G, 0, none⟩), .int .i64 0]) ∧ Sys K H w0 w' B d G L ∧ Below w.heap.size w w' :=
  (yOpen hT h.din ho hw hl).mono fun _ _ ⟨G, _, he, hs, ht, hb⟩ => ⟨G, he, h.anew hs ht hb, hb⟩
end
end Go.Proofs.YtofejnhnnmnfpaaDoor
