/- Open of a log whose last epoch is not below the new one. No condition. -/
import Derived.Test.YtofejnhnnmnfpaaDoorWlO
import Derived.Deep.LoopGhost
namespace Go.Proofs.YtofejnhnnmnfpaaDoor
set_option maxRecDepth 100000
open Go.RowKit
set_option maxHeartbeats 6400000 in
theorem xOpen_form {H : Nat} {w0 w : World} {B first secs epoch : Nat} {d : Dq.Dk} {r : Fr.St} (h : Dq.DIn H w0 w B d) (hs1 : 1 ≤ secs) (hs2 : secs ≤ 4000) (hr : first + secs ≤ d.safe.length) (he1 : 1 ≤ epoch) (he2 : epoch ≤ 4294967295) (live : d.dead = false) (hscan : Fr.scan Fr.st0 (rdOf d first secs) = r) (hlast : epoch ≤ r.last) :
    Calls Tryd.prog 11 #[.pointer (some ⟨B, 0, none⟩), .int .i64 (first : Int), .int .i64 (secs : Int), .int .i64 (epoch : Int)] w fun e w' => e = .returned (.tuple #[.pointer none, .int .i64 2]) ∧ Below w.heap.size w w' := by
  obtain ⟨ii, hii, hz0, hz1, hz2⟩ := info_parts infoStr
  have hmf : ∀ (fn : Fn) (first cap : Array Value) (w : World), (Instr.makeFunc fn first cap).run Tryd.prog w = .ok (.func fn first cap) w := fun _ _ _ _ => rfl
  have hdok := h.ok
  have hlen := hdok.few
  obtain ⟨rd, hrd⟩ : ∃ rd, rd = rdOf d first secs := ⟨_, rfl⟩
  have hrdl : rd.length = secs := by rw [hrd, rdOf_length]
  have hrdg : ∀ i (hi : i < secs), Dq.dread d (((first + i : Nat)) : Int) = (rd[i], 0) := fun i hi => by
    have e : (rd[i]) = (Dq.dread d (((first + i : Nat)) : Int)).1 := by simp [hrd, rdOf]
    rw [e]
    have : (Dq.dread d (((first + i : Nat)) : Int)).2 = 0 := by
      rw [Dq.dread, live, isIn_nat (d := d) (n := first + i) (by omega), if_neg (by decide), if_pos rfl]
    rw [← this]
  have hrd64 : ∀ b ∈ rd, b.length ≤ 140737488351232 := fun b hb => by
    rw [hrd] at hb
    obtain ⟨i, _, rfl⟩ := List.mem_map.1 hb
    have := dread_len hdok ((first : Int) + (i : Int))
    omega
  rw [← hrd] at hscan
  have hsec : ∀ w', Below w.heap.size w w' → Calls Tryd.prog 28 #[.pointer (some ⟨B, 0, none⟩)] w' fun e w'' => e = .returned (.int .i64 (d.safe.length : Int)) ∧ w' = w'' := fun w' hb => Dq.iSectors (h.more hb)
  have g1 : ¬ ((secs : Int) < 1) := by omega
  have g2 : ¬ ((4000 : Int) < secs) := by omega
  have g3 : ¬ ((first : Int) < 0) := by omega
  have g4 : ¬ ((d.safe.length : Int) - secs < first) := by omega
  have g5 : ¬ ((epoch : Int) < 1) := by omega
  have g6 : ¬ ((4294967295 : Int) < epoch) := by omega
  replace hrd64 := Lib.hid hrd64
  replace hrdg := Lib.hid hrdg
  replace hscan := Lib.hid hscan
  replace hsec := Lib.hid hsec
  replace hrdl := Lib.hid hrdl
  clear hrd live hdok
  go_enter Tryd.func11, Tryd.ntmps11
  go_wp2_with fail
  refine (hsec.out _ (Below.refl _ _)).mono ?_
  rintro e w1 ⟨rfl, rfl⟩
  clear hsec
  go_wp2
  go_loopw [11, 56] (fun va i wr => ∃ k : Nat, k ≤ secs ∧ i = .int .i64 k ∧ Aside (wr.ownsRow w.heap.size 9 1 va k (Fr.scells (rd.take k)) ∧ Below w.heap.size w wr)) (fun _ i _ => secs - (intOf i).toNat)
  case atStart => exact ⟨0, Nat.zero_le _, rfl, World.ownsRow_nil _ _ _ _, Below.refl _ _⟩
  case round =>
    obtain ⟨k, hk, rfl, hA⟩ := hrel
    obtain ⟨ho, hb⟩ := hA.out
    clear hA
    have hD := Lib.hid (h.more hb)
    by_cases hlt : k < secs
    · have q := hrdg.out k hlt
      have hcast : (first : Int) + (k : Int) = ((first + k : Nat) : Int) := by omega
      have hrk : k < rd.length := by rw [hrdl.out]; exact hlt
      have htk := Lib.hid (List.take_succ_eq_append_getElem hrk)
      obtain ⟨b, hbk⟩ : ∃ b, b = rd[k] := ⟨_, rfl⟩
      rw [← hbk] at q
      have C := Dq.iRead (((first + k : Nat)) : Int) q hD.out
      rw [← hcast] at C
      replace C := Lib.hid C
      have hki : (k : Int) < secs := by omega
      obtain ⟨av, mv, cv, rfl, hm⟩ := own_form ho
      subst hm
      replace ho := Lib.hid ho
      replace hb := Lib.hid hb
      replace hbk := Lib.hid hbk
      clear q hcast
      go_wp2_with fail
      refine C.out.mono ?_
      rintro e w2 ⟨rfl, rfl⟩
      have hsz := hb.out.size
      go_wp2_with (at_builtin; refine wpList_append_rd rfl _ _ 56 rfl w.heap.size 9 ii (.string ByteArray.empty) 1 16 Tryd.underlying56 hii hz0 hz1 hz2 rfl (by decide) _ _ _ rfl (ho.out.alloc _) _ 1 [.string (mk b)] rfl rfl (by go_simp; exact RdAt.new1W _ rfl) (by intro u hu; rw [List.mem_singleton.1 hu]; rfl) (by unfold maxLen; omega) (by omega) (by simp; omega) ?_; intro v5 w5 hp5; have ho5 := Lib.hid hp5.1; have hb5 := Lib.hid (grow_ownW ho.out hb.out hp5); clear hp5)
      exact ⟨⟨mv + 1, hlt, by go_num, by rw [htk.out, Fr.scells_append, ← hbk.out]; exact ho5.out, hb5.out⟩, by simp [intOf]; omega⟩
    · rename World => wL
      obtain rfl : k = secs := by omega
      rw [List.take_of_length_le (by rw [hrdl.out]; exact Nat.le_refl _)] at ho
      obtain ⟨av, cv, ev, hta⟩ := Fr.TAt.own ho
      rw [hrdl.out] at ev
      subst ev
      obtain ⟨oL, hoL⟩ : ∃ oL, oL = Obj.cells #[.pointer (some ⟨B, 0, none⟩), .int .i64 (first : Int), .int .i64 (k : Int), .int .i64 (epoch : Int), .slice none 0 0, .slice none 0 0, .int .i64 0] 66 := ⟨_, rfl⟩
      have C := Fr.scan_any av cv rd r (wL.alloc oL) (by rw [hrdl.out]; omega) hrd64.out (hta.more ((Below.refl _ _).alloc (Nat.le_refl _) _)) hscan.out
      rw [hrdl.out] at C
      have hgl : (epoch : Int) ≤ r.last := by omega
      have hbA := (Below.refl wL.heap.size wL).alloc (Nat.le_refl _) oL
      replace C := Lib.hid C
      replace hb := Lib.hid hb
      replace hoL := Lib.hid hoL
      replace hbA := Lib.hid hbA
      clear ho hta hD hscan hrd64 hrdg hlast
      go_wp2_with fail
      rw [← hoL.out]
      refine C.out.mono ?_
      rintro e w3 ⟨v3, rfl, ho3, hb3⟩
      have hfin := Lib.hid (hb.out.trans ((hbA.out.trans (hb3.mono hbA.out.size)).mono hb.out.size))
      clear ho3 hb3 C hb hbA
      go_wp2
      go_ret2
      exact ⟨rfl, hfin.out⟩
end Go.Proofs.YtofejnhnnmnfpaaDoor
