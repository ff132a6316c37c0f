/- Apart of a book that keeps lists of one kind alone (Texts). No condition. -/
import Derived.Test.YtaecfgakgpndaaaGreatBkT
import Derived.Test.YtaecfgakgpndaaaGreatBkE
namespace Go.Proofs.YtaecfgakgpndaaaGreat
open Go.RowKit

set_option maxRecDepth 100000 in
set_option maxHeartbeats 6400000 in
theorem apart_T {B base : Nat} {vh vw : Value} {L : List Lst} {S : Nat → Prop} {cur : Array Value} {w : World} (hK : KS 24 9 1 base w B vh vw L S) (hB : w.heap[B]? = some (.cells cur 46 (0, 0))) (hc0 : cur[2]? = some vh) (hc1 : cur[3]? = some vw) (hnil : ∀ i, i < 18 → i ≠ 2 → i ≠ 3 → cur[i]? = some (.slice none 0 0)) (hn : L.length < 250) (hx : ∀ l ∈ L, l.xs.length = l.n ∧ AllT l.xs ∧ l.n ≤ 1000000) (hb : base ≤ w.heap.size) :
    Calls Tryz.prog 20 #[.pointer (some ⟨B, 0, none⟩)] w fun e w' => e = .returned (.bool true) ∧ Chg S w w' := by
  have hx2 : ∀ l ∈ L, l.n ≤ 1000000 := fun l hl => (hx l hl).2.2
  have hBS : ∀ k, S k → k ≠ B := fun k hk e => by have := (hK.lt k hk).1; omega
  have cst := Lib.hid (bkT_stillK hK hB hc0 hc1 hn hx)
  obtain ⟨ah, mh, ch, rfl, emh⟩ := own_form hK.hd
  subst emh
  replace hx := Lib.hid hx
  replace hx2 := Lib.hid hx2
  replace hBS := Lib.hid hBS
  replace hnil := Lib.hid hnil
  replace hc0 := Lib.hid hc0
  replace hc1 := Lib.hid hc1
  replace hK := Lib.hid hK
  replace hB := Lib.hid hB
  go_enter Tryz.func20, Tryz.ntmps20
  go_wp2_with fail
  refine (bkE_stInts B w (cell_of hB.out (hnil.out 0 (by omega) (by omega) (by omega)))).mono ?_
  rintro e wz ⟨rfl, hz⟩
  obtain rfl := hz.symm
  clear hz
  go_wp2_with fail
  refine cst.out.mono ?_
  rintro e w1 ⟨rfl, m, hw1⟩
  have hB1 : w1.heap[B]? = some (.cells cur 46 (0, 0)) := by rw [hw1]; exact hB.out
  have hK1 : KS 24 9 1 base w1 B (.slice ah L.length ch) vw L S := by rw [hw1]; exact hK.out.kept (T := fun _ => False) ⟨rfl, rfl, rfl, Nat.le_refl _, fun _ _ _ => rfl⟩ (fun _ _ => id)
  have hC1 : Chg S w w1 := by rw [hw1]; exact ⟨rfl, rfl, rfl, Nat.le_refl _, fun _ _ _ => rfl⟩
  replace hB1 := Lib.hid hB1
  replace hK1 := Lib.hid hK1
  replace hC1 := Lib.hid hC1
  clear hw1 cst
  go_wp2_with fail
  refine (bkE_stCells B w1 (cell_of hB1.out (hnil.out 4 (by omega) (by omega) (by omega)))).mono ?_
  rintro e wz ⟨rfl, hz⟩
  obtain rfl := hz.symm
  clear hz
  go_wp2_with fail
  refine (bkE_stPages B w1 (cell_of hB1.out (hnil.out 6 (by omega) (by omega) (by omega)))).mono ?_
  rintro e wz ⟨rfl, hz⟩
  obtain rfl := hz.symm
  clear hz
  go_wp2_with fail
  refine (bkE_stPatches B w1 (cell_of hB1.out (hnil.out 8 (by omega) (by omega) (by omega)))).mono ?_
  rintro e wz ⟨rfl, hz⟩
  obtain rfl := hz.symm
  clear hz
  go_wp2_with fail
  refine (bkE_stDirty B w1 (cell_of hB1.out (hnil.out 10 (by omega) (by omega) (by omega)))).mono ?_
  rintro e wz ⟨rfl, hz⟩
  obtain rfl := hz.symm
  clear hz
  go_wp2_with fail
  refine (bkE_stEntries B w1 (cell_of hB1.out (hnil.out 12 (by omega) (by omega) (by omega)))).mono ?_
  rintro e wz ⟨rfl, hz⟩
  obtain rfl := hz.symm
  clear hz
  go_wp2_with fail
  refine (bkE_stPairs B w1 (cell_of hB1.out (hnil.out 14 (by omega) (by omega) (by omega)))).mono ?_
  rintro e wz ⟨rfl, hz⟩
  obtain rfl := hz.symm
  clear hz
  go_wp2_with fail
  refine (bkE_stTxs B w1 (cell_of hB1.out (hnil.out 16 (by omega) (by omega) (by omega)))).mono ?_
  rintro e wz ⟨rfl, hz⟩
  obtain rfl := hz.symm
  clear hz
  go_wp2_with fail
  refine (bkE_puTxs B w1 (cell_of hB1.out (hnil.out 16 (by omega) (by omega) (by omega)))).mono ?_
  rintro e wz ⟨rfl, hz⟩
  obtain rfl := hz.symm
  clear hz
  go_wp2_with fail
  refine (bkE_puInts B w1 (cell_of hB1.out (hnil.out 0 (by omega) (by omega) (by omega)))).mono ?_
  rintro e wz ⟨rfl, hz⟩
  obtain rfl := hz.symm
  clear hz
  go_wp2_with fail
  refine (bkT_putK hK1.out hB1.out hc0.out hn hx2.out).mono ?_
  rintro e w2 ⟨rfl, hK2, hc2⟩
  have hB2 := Lib.hid (hc2.heap hB1.out (fun h => hBS.out B h rfl))
  have hC2 := Lib.hid (hC1.out.trans hc2 (fun _ _ h => h))
  replace hK2 := Lib.hid hK2
  have hb2 : base ≤ w2.heap.size := by have := hC2.out.size; omega
  clear hc2 hK1 hB1 hC1
  go_wp2_with fail
  refine (bkE_puCells B w2 (cell_of hB2.out (hnil.out 4 (by omega) (by omega) (by omega)))).mono ?_
  rintro e wz ⟨rfl, hz⟩
  obtain rfl := hz.symm
  clear hz
  go_wp2_with fail
  refine (bkE_puPages B w2 (cell_of hB2.out (hnil.out 6 (by omega) (by omega) (by omega)))).mono ?_
  rintro e wz ⟨rfl, hz⟩
  obtain rfl := hz.symm
  clear hz
  go_wp2_with fail
  refine (bkE_puPatches B w2 (cell_of hB2.out (hnil.out 8 (by omega) (by omega) (by omega)))).mono ?_
  rintro e wz ⟨rfl, hz⟩
  obtain rfl := hz.symm
  clear hz
  go_wp2_with fail
  refine (bkE_puDirty B w2 (cell_of hB2.out (hnil.out 10 (by omega) (by omega) (by omega)))).mono ?_
  rintro e wz ⟨rfl, hz⟩
  obtain rfl := hz.symm
  clear hz
  go_wp2_with fail
  refine (bkE_puEntries B w2 (cell_of hB2.out (hnil.out 12 (by omega) (by omega) (by omega)))).mono ?_
  rintro e wz ⟨rfl, hz⟩
  obtain rfl := hz.symm
  clear hz
  go_wp2_with fail
  refine (bkE_puPairs B w2 (cell_of hB2.out (hnil.out 14 (by omega) (by omega) (by omega)))).mono ?_
  rintro e wz ⟨rfl, hz⟩
  obtain rfl := hz.symm
  clear hz
  go_wp2_with fail
  refine (bkE_grInts B w2 (cell_of hB2.out (hnil.out 0 (by omega) (by omega) (by omega)))).mono ?_
  rintro e wz ⟨rfl, hz⟩
  obtain rfl := hz.symm
  clear hz
  go_wp2_with fail
  refine (bkT_growK hK2.out hB2.out hc0.out hn hx2.out hb2).mono ?_
  rintro e w3 ⟨vo, G, rfl, hK3, hc3⟩
  have hB3 := Lib.hid (hc3.heap hB2.out (fun h => hBS.out B h rfl))
  have hC3 := Lib.hid (hC2.out.trans hc3 (fun _ _ h => h))
  obtain ⟨ao, co, eo, _⟩ := id hK3.out
  subst eo
  replace hK3 := Lib.hid hK3
  clear hc3 hK2 hB2 hC2
  go_wp2_with fail
  refine (bkE_grCells B w3 (cell_of hB3.out (hnil.out 4 (by omega) (by omega) (by omega)))).mono ?_
  rintro e wz ⟨rfl, hz⟩
  obtain rfl := hz.symm
  clear hz
  go_wp2_with fail
  refine (bkE_grPages B w3 (cell_of hB3.out (hnil.out 6 (by omega) (by omega) (by omega)))).mono ?_
  rintro e wz ⟨rfl, hz⟩
  obtain rfl := hz.symm
  clear hz
  go_wp2_with fail
  refine (bkE_grPatches B w3 (cell_of hB3.out (hnil.out 8 (by omega) (by omega) (by omega)))).mono ?_
  rintro e wz ⟨rfl, hz⟩
  obtain rfl := hz.symm
  clear hz
  go_wp2_with fail
  refine (bkE_grDirty B w3 (cell_of hB3.out (hnil.out 10 (by omega) (by omega) (by omega)))).mono ?_
  rintro e wz ⟨rfl, hz⟩
  obtain rfl := hz.symm
  clear hz
  go_wp2_with fail
  refine (bkE_grEntries B w3 (cell_of hB3.out (hnil.out 12 (by omega) (by omega) (by omega)))).mono ?_
  rintro e wz ⟨rfl, hz⟩
  obtain rfl := hz.symm
  clear hz
  go_wp2_with fail
  refine (bkE_grPairs B w3 (cell_of hB3.out (hnil.out 14 (by omega) (by omega) (by omega)))).mono ?_
  rintro e wz ⟨rfl, hz⟩
  obtain rfl := hz.symm
  clear hz
  go_wp2_with fail
  refine (bkE_grTxs B w3 (cell_of hB3.out (hnil.out 16 (by omega) (by omega) (by omega)))).mono ?_
  rintro e wz ⟨rfl, hz⟩
  obtain rfl := hz.symm
  clear hz
  go_wp2_with fail
  refine (bkE_maInts w3).mono ?_
  rintro e wz ⟨rfl, hz⟩
  obtain rfl := hz.symm
  clear hz
  have hcell := (cell_of hB3.out (hnil.out 0 (by omega) (by omega) (by omega)))
  go_wp2_with fail
  refine (bkE_maInts w3).mono ?_
  rintro e wz ⟨rfl, hz⟩
  obtain rfl := hz.symm
  clear hz
  go_wp2_with fail
  refine (bkT_markedG hK3.out hn hx2.out).mono ?_
  rintro e w4 ⟨rfl, hb4⟩
  have hK4 := Lib.hid (hK3.out.kept (Chg.of_below (S := fun _ => False) hb4) (fun _ _ => id))
  have hB4 := Lib.hid ((hb4.block B (lt_of hB3.out)).trans hB3.out)
  have hC4 := Lib.hid (hC3.out.trans (Chg.of_below (S := S) hb4) (fun _ _ h => h))
  clear hb4 hK3 hB3 hC3
  have hcell := cell_of hB4.out hc0.out
  go_wp2_with fail
  refine (bkT_markedH hK4.out hn hx2.out).mono ?_
  rintro e w5 ⟨rfl, hb5⟩
  have hK5 := Lib.hid (hK4.out.kept (Chg.of_below (S := fun _ => False) hb5) (fun _ _ => id))
  have hB5 := Lib.hid ((hb5.block B (lt_of hB4.out)).trans hB4.out)
  have hC5 := Lib.hid (hC4.out.trans (Chg.of_below (S := S) hb5) (fun _ _ h => h))
  clear hb5 hK4 hB4 hC4
  go_wp2_with fail
  refine (bkE_maCells w5).mono ?_
  rintro e wz ⟨rfl, hz⟩
  obtain rfl := hz.symm
  clear hz
  have hcell := (cell_of hB5.out (hnil.out 4 (by omega) (by omega) (by omega)))
  go_wp2_with fail
  refine (bkE_maCells w5).mono ?_
  rintro e wz ⟨rfl, hz⟩
  obtain rfl := hz.symm
  clear hz
  go_wp2_with fail
  refine (bkE_maPages w5).mono ?_
  rintro e wz ⟨rfl, hz⟩
  obtain rfl := hz.symm
  clear hz
  have hcell := (cell_of hB5.out (hnil.out 6 (by omega) (by omega) (by omega)))
  go_wp2_with fail
  refine (bkE_maPages w5).mono ?_
  rintro e wz ⟨rfl, hz⟩
  obtain rfl := hz.symm
  clear hz
  go_wp2_with fail
  refine (bkE_maPatches w5).mono ?_
  rintro e wz ⟨rfl, hz⟩
  obtain rfl := hz.symm
  clear hz
  have hcell := (cell_of hB5.out (hnil.out 8 (by omega) (by omega) (by omega)))
  go_wp2_with fail
  refine (bkE_maPatches w5).mono ?_
  rintro e wz ⟨rfl, hz⟩
  obtain rfl := hz.symm
  clear hz
  go_wp2_with fail
  refine (bkE_maDirty w5).mono ?_
  rintro e wz ⟨rfl, hz⟩
  obtain rfl := hz.symm
  clear hz
  have hcell := (cell_of hB5.out (hnil.out 10 (by omega) (by omega) (by omega)))
  go_wp2_with fail
  refine (bkE_maDirty w5).mono ?_
  rintro e wz ⟨rfl, hz⟩
  obtain rfl := hz.symm
  clear hz
  go_wp2_with fail
  refine (bkE_maEntries w5).mono ?_
  rintro e wz ⟨rfl, hz⟩
  obtain rfl := hz.symm
  clear hz
  have hcell := (cell_of hB5.out (hnil.out 12 (by omega) (by omega) (by omega)))
  go_wp2_with fail
  refine (bkE_maEntries w5).mono ?_
  rintro e wz ⟨rfl, hz⟩
  obtain rfl := hz.symm
  clear hz
  go_wp2_with fail
  refine (bkE_maPairs w5).mono ?_
  rintro e wz ⟨rfl, hz⟩
  obtain rfl := hz.symm
  clear hz
  have hcell := (cell_of hB5.out (hnil.out 14 (by omega) (by omega) (by omega)))
  go_wp2_with fail
  refine (bkE_maPairs w5).mono ?_
  rintro e wz ⟨rfl, hz⟩
  obtain rfl := hz.symm
  clear hz
  go_wp2_with fail
  refine (bkE_maTxs w5).mono ?_
  rintro e wz ⟨rfl, hz⟩
  obtain rfl := hz.symm
  clear hz
  have hcell := (cell_of hB5.out (hnil.out 16 (by omega) (by omega) (by omega)))
  go_wp2_with fail
  refine (bkE_maTxs w5).mono ?_
  rintro e wz ⟨rfl, hz⟩
  obtain rfl := hz.symm
  clear hz
  go_wp2
  go_ret
  exact ⟨rfl, hC5.out⟩
end Go.Proofs.YtaecfgakgpndaaaGreat
