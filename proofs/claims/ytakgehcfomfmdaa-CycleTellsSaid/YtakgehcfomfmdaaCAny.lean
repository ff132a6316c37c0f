/- The greatest on a cycle with one; whether there is a cycle. No condition. -/
import Derived.Test.YtakgehcfomfmdaaCOn
import Derived.Deep.QuietTactic
import Derived.BigQuiet
namespace Go.Proofs.Ytakgehcfomfmdaa
open Go.RowKit

/-- What Victim answers. -/
def vicV (l : List Int) : Value := if l = [] then .tuple #[.int .i64 0, .bool false] else .tuple #[.int .i64 (l.getLastD 0), .bool true]
set_option maxHeartbeats 800000 in
theorem victim_any (a : Option Addr) (c : Nat) (E : List (Int × Int)) (s : Int) (w : World) (hE : PAt w a E) (hl : E.length ≤ 1000000) (hs : (Lit.int .i64 s).wf = true) :
    Calls Try.prog 15 #[.int .i64 s, .slice a E.length c] w fun e w' => ∃ l, OnL E s l ∧ e = .returned (vicV l) ∧ Below w.heap.size w w' := by
  go_enter Try.func15, Try.ntmps15
  go_wp2_with fail
  refine (on_any a c E s _ hE hl hs).mono ?_
  rintro e w1 ⟨v, l, rfl, hL, ho, hw, hll, hb⟩
  obtain ⟨a1, c1, rfl, h1⟩ := IAt.own ho
  replace hL := Lib.hid hL
  replace hb := Lib.hid hb
  clear ho
  rcases l.eq_nil_or_concat with e | ⟨l', x, e⟩
  · subst e
    go_wp2
    go_ret2
    exact ⟨[], hL.out, rfl, hb.out⟩
  · rw [List.concat_eq_append] at e
    subst e
    have hlen : (l' ++ [x]).length = l'.length + 1 := by simp
    obtain ⟨b, o, rfl, hc⟩ := h1 l'.length (by omega)
    have hx : (l' ++ [x])[l'.length] = x := by simp
    rw [hx] at hc
    rw [hlen] at hll ⊢
    clear hx hlen h1
    go_wp2
    go_ret2
    exact ⟨l' ++ [x], hL.out, by simp [vicV], hb.out⟩
set_option maxHeartbeats 800000 in
theorem same_yes (a1 a2 : Option Addr) (c1 c2 : Nat) (l : List Int) (w : World) (h1 : IAt w a1 l) (h2 : IAt w a2 l) (hl : l.length ≤ 1000000) :
    Calls Try.prog 16 #[.slice a1 l.length c1, .slice a2 l.length c2] w fun e w' => e = .returned (.bool true) ∧ Below w.heap.size w w' := by
  have hne : ((l.length : Int) != l.length) = false := by simp
  replace h1 := Lib.hid h1
  replace h2 := Lib.hid h2
  go_enter Try.func16, Try.ntmps16
  go_wp2
  go_loopw [5] (fun i wr => ∃ k : Nat, k ≤ l.length ∧ i = .int .i64 k ∧ ∃ n, wr = w.drewN n) (fun i _ => l.length - (intOf i).toNat)
  case atStart => exact ⟨0, Nat.zero_le _, rfl, 0, rfl⟩
  case round =>
    obtain ⟨k, hk, rfl, n, rfl⟩ := hrel
    by_cases hlt : k < l.length
    · obtain ⟨b1, o1, rfl, g1⟩ := h1.out k hlt
      obtain ⟨b2, o2, rfl, g2⟩ := h2.out k hlt
      obtain ⟨x, hx⟩ : ∃ x, x = l[k] := ⟨_, rfl⟩
      rw [← hx] at g1 g2
      replace hx := Lib.hid hx
      have hkk : (0 : Int) ≤ k := by omega
      have hkl : (k : Int) < l.length := by omega
      have g1' : (w.drewN n).cell? ⟨b1, o1 + k, none⟩ = some (.int .i64 x) := g1
      have g2' : (w.drewN n).cell? ⟨b2, o2 + k, none⟩ = some (.int .i64 x) := g2
      go_wp2
      go_quiet (fail)
      go_wp2
      go_roundw
      case rel => exact ⟨k + 1, hlt, by go_num, _, rfl⟩
      case measure => simp [intOf]; omega
    · obtain rfl : k = l.length := by omega
      go_wp2
      go_ret
      exact ⟨rfl, ⟨rfl, rfl, rfl, Nat.le_refl _, fun _ _ => rfl⟩⟩
theorem onl_some {E : List (Int × Int)} {s : Int} {l : List Int} (h : OnL E s l) : l ≠ [] ↔ Rt E s s := by
  constructor
  · intro hne
    cases l with
    | nil => exact absurd rfl hne
    | cons x l => have := (h.mem x).1 (List.mem_cons_self ..); exact this.1.trans this.2
  · intro hr e
    have := (h.mem s).2 ⟨hr, hr⟩
    rw [e] at this
    cases this
theorem any1_any (a : Option Addr) (c : Nat) (E : List (Int × Int)) (p1 p2 : Int) (B : Nat) (w : World) (hE : PAt w a E) (hl : E.length ≤ 1000000) (hs : (Lit.int .i64 p1).wf = true) (hB : w.cell? ⟨B, 0, none⟩ = some (.slice a E.length c)) :
    Calls Try.prog 29 #[.agg #[.int .i64 p1, .int .i64 p2], .pointer (some ⟨B, 0, none⟩)] w fun e w' => ∃ b : Bool, e = .returned (.bool b) ∧ (b = true ↔ Rt E p1 p1) ∧ Below w.heap.size w w' := by
  have hE1 := hE.more ((Below.refl w.heap.size w).alloc (Nat.le_refl _) (.cells #[.int .i64 p1, .int .i64 p2] 43))
  have hlt := World.block_lt_of_cell? w _ hB
  replace hE1 := Lib.hid hE1
  go_enter Try.func29, Try.ntmps29
  go_wp2_with fail
  refine (on_any a c E p1 _ hE1.out hl hs).mono ?_
  rintro e w1 ⟨v, l, rfl, hL, ho, hw, hll, hb⟩
  obtain ⟨a1, c1, rfl, h1⟩ := IAt.own ho
  have hS := Lib.hid (onl_some hL)
  have hb1 := Lib.hid (((Below.refl w.heap.size w).alloc (Nat.le_refl _) _).trans (hb.mono (by simp)))
  clear hL hb ho h1
  rcases (show l = [] ∨ l ≠ [] by by_cases e : l = []; exact .inl e; exact .inr e) with h0 | h0
  · have hn := Lib.hid (fun e => hS.out.2 e h0)
    subst h0
    go_wp2
    go_ret
    exact ⟨false, rfl, ⟨fun h => (by cases h), fun h => absurd h hn.out⟩, hb1.out⟩
  · have hpos := List.length_pos_iff.2 h0
    have hn := Lib.hid (hS.out.1 h0)
    clear h0
    go_wp2
    go_ret
    exact ⟨true, by simp [hpos], ⟨fun _ => hn.out, fun _ => rfl⟩, hb1.out⟩
set_option maxHeartbeats 800000 in
theorem index_any (a : Option Addr) (c : Nat) (E : List (Int × Int)) (B : Nat) (w : World) (hE : PAt w a E) (hl : E.length ≤ 1000000) (hB : w.cell? ⟨B, 0, none⟩ = some (.slice a E.length c)) :
    Calls Try.prog 71 #[.slice a E.length c, .func (.func 29) #[] #[.pointer (some ⟨B, 0, none⟩)]] w fun e w' => ∃ n : Int, e = .returned (.int .i64 n) ∧ (0 ≤ n ↔ ∃ x, Rt E x x) ∧ Below w.heap.size w w' := by
  replace hE := Lib.hid hE
  go_enter Try.func71, Try.ntmps71
  go_wp2
  go_loopw [8] (fun i wr => ∃ k : Nat, k ≤ E.length ∧ i = .int .i64 k ∧ Hid (∀ p ∈ E.take k, ¬ Rt E p.1 p.1) ∧ Below w.heap.size w wr) (fun i _ => E.length - (intOf i).toNat)
  case atStart => exact ⟨0, Nat.zero_le _, rfl, Lib.hid (by simp), Below.refl _ _⟩
  case round =>
    obtain ⟨k, hk, rfl, hno, hb⟩ := hrel
    by_cases hlt : k < E.length
    · obtain ⟨b, o, rfl, h1, h2, hw1, _⟩ := hE.out k hlt
      obtain ⟨p1, p2, hp⟩ : ∃ p1 p2, E[k] = (p1, p2) := ⟨_, _, rfl⟩
      have htk : E.take (k + 1) = E.take k ++ [(p1, p2)] := by rw [← hp]; exact List.take_succ_eq_append_getElem hlt
      rw [hp] at h1 h2 hw1
      simp only at h1 h2 hw1
      have g1 := cell_more hb h1
      have g2 := cell_more hb h2
      have gB := Lib.hid (cell_more hb hB)
      have hE1 := hE.out.more hb
      have hmem : (p1, p2) ∈ E := by rw [← hp]; exact List.getElem_mem hlt
      replace hb := Lib.hid hb
      replace hE1 := Lib.hid hE1
      replace htk := Lib.hid htk
      replace hp := Lib.hid hp
      replace hmem := Lib.hid hmem
      clear h1 h2
      go_wp2_with fail
      refine (any1_any _ c E p1 p2 B _ hE1.out hl hw1 gB.out).mono ?_
      rintro e w1 ⟨bb, rfl, hbb, hb1⟩
      have hb2 := Lib.hid (hb.out.trans (hb1.mono hb.out.size))
      clear hb1 g1 g2 gB hE1
      rcases (show bb = true ∨ bb = false by cases bb; exact .inr rfl; exact .inl rfl) with hbe | hbe
      · have hr := Lib.hid (hbb.1 hbe)
        subst hbe
        clear hbb
        go_wp2
        go_ret
        exact ⟨k, rfl, ⟨fun _ => ⟨p1, hr.out⟩, fun _ => by omega⟩, hb2.out⟩
      · have hr := Lib.hid (show ¬ Rt E p1 p1 from fun h => by have := hbb.2 h; rw [hbe] at this; cases this)
        subst hbe
        clear hbb
        go_wp2
        go_roundw
        case rel => exact ⟨k + 1, hlt, by go_num, Lib.hid (by
          rw [htk.out]
          intro p hp2
          rcases List.mem_append.1 hp2 with h | h
          · exact hno.out p h
          · rw [List.mem_singleton.1 h]
            exact hr.out), hb2.out⟩
        case measure => simp [intOf]; omega
    · obtain rfl : k = E.length := by omega
      have hn := hno.out
      rw [List.take_length] at hn
      go_wp2
      go_ret
      refine ⟨-1, rfl, ⟨fun h => by omega, fun ⟨x, hx⟩ => ?_⟩, hb⟩
      obtain ⟨p, hp, e⟩ := List.mem_map.1 (rt_source hx)
      exact absurd (by rw [e]; exact hx) (hn p hp)
theorem any_any (a : Option Addr) (c : Nat) (E : List (Int × Int)) (w : World) (hE : PAt w a E) (hl : E.length ≤ 1000000) :
    Calls Try.prog 17 #[.slice a E.length c] w fun e w' => ∃ b : Bool, e = .returned (.bool b) ∧ (b = true ↔ ∃ x, Rt E x x) ∧ Below w.heap.size w w' := by
  have hmf : ∀ (fn : Fn) (first cap : Array Value) (w : World), (Instr.makeFunc fn first cap).run Try.prog w = .ok (.func fn first cap) w := fun _ _ _ _ => rfl
  have hE1 := Lib.hid (hE.more ((Below.refl w.heap.size w).alloc (Nat.le_refl _) (.cells #[.slice a E.length c] 22)))
  have hB : (w.alloc (.cells #[.slice a E.length c] 22)).cell? ⟨w.heap.size, 0, none⟩ = some (.slice a E.length c) := cell_of (heap_alloc_new w _) rfl
  replace hB := Lib.hid hB
  go_enter Try.func17, Try.ntmps17
  go_wp2_with fail
  go_enter Try.func28, Try.ntmps28
  go_wp2_with fail
  refine (index_any a c E _ _ hE1.out hl hB.out).mono ?_
  rintro e w1 ⟨n, rfl, hn, hb⟩
  have hb1 := Lib.hid (((Below.refl w.heap.size w).alloc (Nat.le_refl _) _).trans (hb.mono (by simp)))
  replace hn := Lib.hid hn
  clear hb
  go_wp2
  go_ret
  exact ⟨decide (0 ≤ n), rfl, by rw [decide_eq_true_iff]; exact hn.out, hb1.out⟩
end Go.Proofs.Ytakgehcfomfmdaa
