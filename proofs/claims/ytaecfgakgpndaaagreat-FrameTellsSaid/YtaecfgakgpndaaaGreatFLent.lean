/- Texts that are lent, with a mark behind them. No condition. -/
import Derived.Test.YtaecfgakgpndaaaGreatBkT
import Derived.Test.YtaecfgakgpndaaaGreatFBatch
namespace Go.Proofs.YtaecfgakgpndaaaGreat
open Go.RowKit

theorem TAt.rd {w : World} {a : Option Addr} {l : List (List UInt8)} (h : TAt w a l) (c : Nat) : RdAt w (.slice a l.length c) l.length (scells l) := by
  refine ⟨a, c, rfl, fun j u hj => ?_⟩
  have hl := (List.getElem?_eq_some_iff.1 hj).1
  rw [scells_length] at hl
  obtain ⟨b, o, e, h1⟩ := h j hl
  refine ⟨b, o, e, ?_⟩
  rw [h1, ← hj]
  simp [scells, hl]
theorem scells_all (l : List (List UInt8)) : AllT (scells l) := fun u hu => by
  obtain ⟨x, _, rfl⟩ := List.mem_map.1 hu
  exact ⟨x, rfl⟩
theorem scells_one (l : List (List UInt8)) : ∀ u ∈ scells l, u.oneCell' = true := fun u hu => by
  obtain ⟨x, _, rfl⟩ := List.mem_map.1 hu
  rfl
def markB : List UInt8 := [109, 97, 114, 107]
/-- Lent: the texts, and a mark behind them. -/
def LentT (w : World) (g n : Nat) (l : List (List UInt8)) : Prop := TAt w (some ⟨g, 0, none⟩) l ∧ n = l.length ∧ w.cell? ⟨g, n, none⟩ = some (.string (mk markB))
theorem LentT.more {w w' : World} {g n : Nat} {l : List (List UInt8)} (h : LentT w g n l) (hb : Below w.heap.size w w') : LentT w' g n l :=
  ⟨h.1.more hb, h.2.1, (World.cell?_of_block (w := w) (hb.block _ (World.block_lt_of_cell? w _ h.2.2))).trans h.2.2⟩
theorem lentT_of {w3 : World} {base n : Nat} {l : List (List UInt8)} {v3 : Value} (hn : n = l.length) (h : w3.ownsRow base 9 1 v3 (n + 1) (scells l ++ [.string (mk markB)])) :
    ∃ g cap, v3 = .slice (some ⟨g, 0, none⟩) (n + 1) cap ∧ n + 1 ≤ cap ∧ base ≤ g ∧ LentT w3 g n l := by
  have h' : w3.ownsRow base 9 1 v3 (n + 1) (scells (l ++ [markB])) := by rw [scells_append]; exact h
  rcases h.2 with ⟨_, e⟩ | ⟨g, cap, cur, rfl, hb, _, hc, _⟩
  · omega
  · obtain ⟨a, c, e, hP⟩ := TAt.own h'
    simp only [Value.slice.injEq] at e
    obtain ⟨rfl, _, rfl⟩ := e
    refine ⟨g, cap, rfl, hc, hb, fun j hj => ?_, hn, ?_⟩
    · obtain ⟨b, o, e1, q1⟩ := hP j (by simp; omega)
      rw [List.getElem_append_left hj] at q1
      exact ⟨b, o, e1, q1⟩
    · obtain ⟨b, o, e1, q1⟩ := hP l.length (by simp)
      cases e1
      simp at q1
      rw [hn]
      exact q1
set_option maxRecDepth 100000 in
set_option maxHeartbeats 1600000 in
theorem lentT_any (a : Option Addr) (c : Nat) (l : List (List UInt8)) (w : World) (hE : TAt w a l) (hl : l.length ≤ 100000) :
    Calls Tryz.prog 10 #[.slice a l.length c] w fun e w' => ∃ g cap, e = .returned (.slice (some ⟨g, 0, none⟩) l.length cap) ∧ l.length + 1 ≤ cap ∧ w.heap.size ≤ g ∧ LentT w' g l.length l ∧ Below w.heap.size w w' := by
  obtain ⟨ii, hi0, hz0, hz1, hz2⟩ := info_parts bkT_info
  obtain ⟨n, hn⟩ : ∃ n, n = l.length := ⟨_, rfl⟩
  have hc := Lib.hid (bkT_copy (.slice a l.length c) l.length (scells l) w (hE.rd c) (scells_length l) (scells_one l) (by omega))
  clear hE
  rw [← hn]
  rw [← hn] at hc hl
  replace hn := Lib.hid hn
  go_enter Tryz.func10, Tryz.ntmps10
  go_wp2_with fail
  refine hc.out.mono ?_
  rintro e w1 ⟨v1, rfl, o1, b1⟩
  replace o1 := Lib.hid o1
  have hb1 := Lib.hid b1
  have hs1 := b1.size
  clear b1
  go_wp2_with (at_builtin; refine wpList_append_rd rfl _ _ 24 rfl w.heap.size 9 ii (.string ByteArray.empty) 1 16 Tryz.underlying24 hi0 hz0 hz1 hz2 rfl (by decide) _ n (scells l) rfl (o1.out.alloc _) _ 1 [.string (mk markB)] rfl rfl (by go_simp; exact RdAt.new1T _ rfl) (by intro u hu; rw [List.mem_singleton.1 hu]; rfl) (by unfold maxLen; omega) (by omega) (by simp; omega) ?_; intro v3 w3 hp; have hL := lentT_of hn.out hp.1; have hb3 := Lib.hid (grow_ownT o1.out hb1.out hp); clear hp; obtain ⟨g, cap, rfl, hcap, hg, hL⟩ := hL; replace hL := Lib.hid hL)
  go_ret
  exact ⟨g, cap, rfl, hcap, hg, hL.out, hb3.out⟩
set_option maxRecDepth 100000 in
set_option maxHeartbeats 1600000 in
theorem staysT_any (g cap : Nat) (a : Option Addr) (c : Nat) (l : List (List UInt8)) (w : World) (hL : LentT w g l.length l) (hcap : l.length + 1 ≤ cap) (hE : TAt w a l) (hl : l.length ≤ 100000) :
    Calls Tryz.prog 19 #[.slice (some ⟨g, 0, none⟩) l.length cap, .slice a l.length c] w fun e w' => e = .returned (.bool true) ∧ Below w.heap.size w w' := by
  obtain ⟨n, hn⟩ : ∃ n, n = l.length := ⟨_, rfl⟩
  have hc := Lib.hid (bkT_same (.slice (some ⟨g, 0, none⟩) l.length cap) (.slice a l.length c) l.length (scells l) w (hL.1.rd cap) (hE.rd c) (scells_length l) (scells_all l) (by omega))
  obtain ⟨_, _, c1⟩ := hL
  rw [← hn] at hc hl hcap c1
  rw [← hn]
  replace hn := Lib.hid hn
  clear hE
  go_enter Tryz.func19, Tryz.ntmps19
  go_wp2_with fail
  refine hc.out.mono ?_
  rintro e w1 ⟨rfl, m, hw1⟩
  have c1' : w1.cell? ⟨g, n, none⟩ = some (.string (mk markB)) := by rw [hw1]; exact c1
  have hb1 : Below w.heap.size w w1 := by rw [hw1]; exact bk_drewNT (Below.refl _ _) m
  replace hb1 := Lib.hid hb1
  clear hw1 c1
  go_wp2
  go_ret
  exact ⟨rfl, hb1.out⟩
end Go.Proofs.YtaecfgakgpndaaaGreat
