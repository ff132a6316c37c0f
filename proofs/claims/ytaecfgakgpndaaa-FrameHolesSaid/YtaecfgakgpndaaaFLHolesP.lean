/- Of a batch of which sectors lack, over what was there: plain facts. No condition. -/
import Derived.Test.YtaecfgakgpndaaaFLBackP
import Derived.Laws.CopyOwn
namespace Go.Proofs.Ytaecfgakgpndaaa
open Go.RowKit

/-- What was read ahead stays. -/
theorem scan_ext : ∀ (l : List (List UInt8)) (s : St), ∃ m, (scan s l).l = s.l ++ m
  | [], s => ⟨[], by rw [scan, List.append_nil]⟩
  | b :: l, s => by
    cases h : take s b with
    | none => exact ⟨[], by rw [scan_none _ h, List.append_nil]⟩
    | some s' =>
      obtain ⟨x, _, _, rfl⟩ := take_fits h
      obtain ⟨m, hm⟩ := scan_ext l (eat s x)
      rw [scan_some _ h, hm]
      unfold eat
      simp only
      split
      · exact ⟨(drain _).1 ++ m, by rw [List.append_assoc]⟩
      · exact ⟨m, rfl⟩
/-- A sector behind: nothing new, or a new end. -/
theorem eat_cases (s : St) (x : Sec) : (eat s x).at_ = s.at_ + 1 ∧ (eat s x).epoch = x.epoch ∧ (((eat s x).end_ = s.end_ ∧ (eat s x).l = s.l ∧ (eat s x).last = s.last) ∨ ((eat s x).end_ = s.at_ + 1 ∧ (eat s x).last = x.epoch)) := by
  unfold eat
  simp only
  split
  · refine ⟨rfl, rfl, ?_⟩
    simp only
    by_cases c : (drain ((if x.fresh = true then [] else s.b) ++ x.pay)).1 = []
    · rw [if_pos c, if_pos c, c]
      exact .inl ⟨rfl, by simp, rfl⟩
    · rw [if_neg c, if_neg c]
      exact .inr ⟨rfl, rfl⟩
  · exact ⟨rfl, rfl, .inl ⟨rfl, rfl, rfl⟩⟩
/-- Read up to where the last record ended, all records have been read. -/
theorem scan_upto : ∀ (l : List (List UInt8)) (s : St), ((scan s l).end_ = s.end_ ∧ (scan s l).l = s.l ∧ (scan s l).last = s.last) ∨
    ∃ j S, 1 ≤ j ∧ j ≤ l.length ∧ (scan s l).end_ = s.at_ + j ∧ (∀ tl, scan s (l.take j ++ tl) = scan S tl) ∧ S.l = (scan s l).l ∧ S.at_ = s.at_ + j ∧ S.end_ = s.at_ + j ∧ S.epoch = (scan s l).last
  | [], s => .inl ⟨rfl, rfl, rfl⟩
  | b :: l, s => by
    cases h : take s b with
    | none => rw [scan_none _ h]; exact .inl ⟨rfl, rfl, rfl⟩
    | some s' =>
      obtain ⟨x, _, _, e⟩ := take_fits h
      obtain ⟨h1, h2, h3⟩ := eat_cases s x
      rw [← e] at h1 h2 h3
      rw [scan_some _ h]
      rcases scan_upto l s' with ⟨g1, g2, g3⟩ | ⟨j, S, g1, g2, g3, g4, g5, g6, g7, g8⟩
      · rcases h3 with ⟨k1, k2, k3⟩ | ⟨k1, k2⟩
        · exact .inl ⟨g1.trans k1, g2.trans k2, g3.trans k3⟩
        · refine .inr ⟨1, s', Nat.le_refl _, by simp, g1.trans k1, fun tl => ?_, g2.symm, h1, k1, ?_⟩
          · rw [List.take_succ_cons, List.take_zero, List.cons_append, List.nil_append, scan_some _ h]
          · rw [g3, k2, h2]
      · refine .inr ⟨j + 1, S, by omega, by simp; omega, by omega, fun tl => ?_, g5, by omega, by omega, g8⟩
        rw [List.take_succ_cons, List.cons_append, scan_some _ h, g4]
theorem scan_upto0 (l : List (List UInt8)) : (scan st0 l).end_ ≤ l.length ∧ ∃ S, (∀ tl, scan st0 (l.take (scan st0 l).end_ ++ tl) = scan S tl) ∧ S.l = (scan st0 l).l ∧ S.at_ = (scan st0 l).end_ ∧ S.end_ = (scan st0 l).end_ ∧ S.epoch = (scan st0 l).last := by
  rcases scan_upto l st0 with ⟨g1, g2, g3⟩ | ⟨j, S, g1, g2, g3, g4, g5, g6, g7, g8⟩
  · rw [g1, g2, g3]
    exact ⟨Nat.zero_le _, st0, fun tl => by simp [st0], rfl, rfl, rfl, rfl⟩
  · have e : (scan st0 l).end_ = j := by rw [g3]; simp [st0]
    rw [e]
    exact ⟨g2, S, g4, g5, by rw [g6]; simp [st0], by rw [g7]; simp [st0], g8⟩
/-- Of lesser epochs nothing is read. -/
theorem scan_lesser {s : St} {l : List (List UInt8)} {m : Nat} (h : ∀ b ∈ l, ∀ x, dec b = some x → x.epoch ≤ m) (hs : m < s.epoch) : scan s l = s := by
  cases l with
  | nil => rfl
  | cons b l =>
    refine scan_none _ ?_
    cases hd : dec b with
    | none => exact take_bad hd
    | some x =>
      have := h b (List.mem_cons_self ..) x hd
      rw [take, hd]
      simp only
      rw [if_neg]
      simp [fits]
      omega
theorem scan_last : ∀ (l : List (List UInt8)) (s : St) (m : Nat), (∀ b ∈ l, ∀ x, dec b = some x → x.epoch ≤ m) → s.last ≤ m → (scan s l).last ≤ m
  | [], s, m, _, hs => hs
  | b :: l, s, m, h, hs => by
    cases ht : take s b with
    | none => rw [scan_none _ ht]; exact hs
    | some s' =>
      obtain ⟨x, hd, _, e⟩ := take_fits ht
      rw [scan_some _ ht]
      refine scan_last l s' m (fun b hb => h b (List.mem_cons_of_mem _ hb)) ?_
      obtain ⟨_, _, h3⟩ := eat_cases s x
      rw [e]
      have := h b (List.mem_cons_self ..) x hd
      omega
/-- Written anew from where the log goes on. -/
theorem scan_again {D : List (List UInt8)} {G : List (List UInt8)} {m e : Nat} (hD : ∀ b ∈ D, ∀ x, dec b = some x → x.epoch ≤ m) (he : m < e) (he' : e ≤ 4294967295) (hG : recsOk G) (hne : G ≠ []) (hi : (scan st0 D).end_ + cnt G ≤ 65536) :
    (scan st0 (D.take (scan st0 D).end_ ++ (secs e (scan st0 D).end_ true (stream G) ++ D.drop ((scan st0 D).end_ + cnt G)))) = ⟨[], true, (scan st0 D).end_ + cnt G, e, (scan st0 D).l ++ G, (scan st0 D).end_ + cnt G, e⟩ := by
  obtain ⟨_, S, h1, h2, h3, h4, h5⟩ := scan_upto0 D
  have hl := scan_last D st0 m hD (Nat.zero_le _)
  rw [h1, scan_batch hG hne (by omega) he' S _ hi h3 (by omega) (by omega), h2]
  exact scan_lesser (fun b hb => hD b (List.mem_of_mem_drop hb)) he

/-- What is on the disk: the batch ahead, then of each place what was kept, or what was there. -/
def over (kept : Nat → Bool) (l o : List (List UInt8)) (N : Nat) : List (List UInt8) :=
  (List.range N).map fun i => if i < l.length ∧ kept i = true then l.getD i [] else if i < o.length then o.getD i [] else List.replicate 64 0
/-- How many of the first ones were kept. -/
def firstOf (kept : Nat → Bool) : Nat → Nat → Nat
  | 0, i => i
  | n + 1, i => if kept i = true then firstOf kept n (i + 1) else i
theorem firstOf_spec (kept : Nat → Bool) : ∀ n i, i ≤ firstOf kept n i ∧ firstOf kept n i ≤ i + n ∧ (∀ j, i ≤ j → j < firstOf kept n i → kept j = true) ∧ (firstOf kept n i < i + n → kept (firstOf kept n i) = false)
  | 0, i => ⟨Nat.le_refl _, Nat.le_refl _, fun j h1 h2 => by rw [firstOf] at h2; omega, fun h => by rw [firstOf] at h; omega⟩
  | n + 1, i => by
    rw [firstOf]
    split
    · rename_i hk
      obtain ⟨h1, h2, h3, h4⟩ := firstOf_spec kept n (i + 1)
      refine ⟨by omega, by omega, fun j g1 g2 => ?_, fun h => h4 (by omega)⟩
      by_cases e : j = i
      · rw [e]; exact hk
      · exact h3 j (by omega) g2
    · rename_i hk
      exact ⟨Nat.le_refl _, by omega, fun j g1 g2 => by omega, fun _ => by simpa using hk⟩
theorem dec_secs {e i : Nat} {f : Bool} {s : List UInt8} (he : 1 ≤ e) (he' : e ≤ 4294967295) (hi : i + (s.length + 55) / 56 ≤ 65536) : ∀ b ∈ secs e i f s, ∃ x, dec b = some x ∧ x.epoch = e := by
  intro b hb
  obtain ⟨k, hk, rfl⟩ := List.getElem_of_mem hb
  have hk' := hk
  rw [secs_len] at hk'
  rw [secs_get]
  refine ⟨_, dec_enc (secOk_iff.2 ?_), rfl⟩
  simp only [List.length_take, List.length_drop]
  omega
theorem over_dec {kept : Nat → Bool} {n N : Nat} {L O : List (List UInt8)} (hO : n + cnt O ≤ 65536) (hL : n + cnt L ≤ 65536) : ∀ b ∈ over kept (secs 3 n true (stream L)) (secs 2 n true (stream O)) N, ∀ x, dec b = some x → x.epoch ≤ 3 := by
  intro b hb x hx
  obtain ⟨i, hi, rfl⟩ := List.mem_map.1 hb
  split at hx
  · rename_i h
    obtain ⟨y, hy, hye⟩ := dec_secs (f := true) (s := stream L) (by omega : 1 ≤ 3) (by omega) hL (((secs 3 n true (stream L))).getD i []) (by simp [List.getD, h.1])
    rw [hy] at hx; cases hx; omega
  · split at hx
    · rename_i h
      obtain ⟨y, hy, hye⟩ := dec_secs (f := true) (s := stream O) (by omega : 1 ≤ 2) (by omega) hO (((secs 2 n true (stream O))).getD i []) (by simp [List.getD, h])
      rw [hy] at hx; cases hx; omega
    · rw [dec_zeros] at hx; cases hx
/-- Where the batch's first sector is there, its first records are read, and no more. -/
theorem over_read {kept : Nat → Bool} {n N : Nat} {A L O : List (List UInt8)} (hL : recsOk L) (hLne : L ≠ []) (hO2 : n + cnt O ≤ 65536) (hL2 : n + cnt L ≤ 65536) (hN : cnt L < N) (hf : 0 < firstOf kept (cnt L) 0) :
    ∃ m rest, (scan ⟨[], true, n, 1, A, n, 1⟩ (over kept (secs 3 n true (stream L)) (secs 2 n true (stream O)) N)).l = A ++ rest ∧ rest ++ m = L ∧ (firstOf kept (cnt L) 0 = cnt L → rest = L) := by
  obtain ⟨F, hF⟩ : ∃ F, F = firstOf kept (cnt L) 0 := ⟨_, rfl⟩
  obtain ⟨_, h2, h3, h4⟩ := firstOf_spec kept (cnt L) 0
  rw [← hF] at h2 h3 h4 hf ⊢
  rw [Nat.zero_add] at h2 h4
  have hsl : (secs 3 n true (stream L)).length = cnt L := secs_len _ _ _ _
  have hso : (secs 2 n true (stream O)).length = cnt O := secs_len _ _ _ _
  have hS := List.length_pos_iff.2 (stream_ne hLne)
  -- the first ones
  have hsplit : over kept (secs 3 n true (stream L)) (secs 2 n true (stream O)) N = (secs 3 n true (stream L)).take F ++ (over kept (secs 3 n true (stream L)) (secs 2 n true (stream O)) N).drop F := by
    conv => lhs; rw [← List.take_append_drop F (over kept (secs 3 n true (stream L)) (secs 2 n true (stream O)) N)]
    congr 1
    apply List.ext_getElem
    · simp [over, hsl]; omega
    · intro i g1 g2
      have hi : i < F := by rw [List.length_take] at g2; omega
      have hk := h3 i (Nat.zero_le _) hi
      simp only [over, List.getElem_take, List.getElem_map, List.getElem_range]
      rw [if_pos ⟨by omega, hk⟩]
      simp [List.getD, show i < (secs 3 n true (stream L)).length by omega]
  have hdrop : ∃ b tl, (over kept (secs 3 n true (stream L)) (secs 2 n true (stream O)) N).drop F = b :: tl ∧ ∀ x, dec b = some x → x.epoch ≤ 2 := by
    have hlen : F < (over kept (secs 3 n true (stream L)) (secs 2 n true (stream O)) N).length := by simp [over]; omega
    refine ⟨_, _, List.drop_eq_getElem_cons hlen, fun x hx => ?_⟩
    simp only [over, List.getElem_map, List.getElem_range] at hx
    rw [if_neg (fun h => by have := h4 (by omega); rw [this] at h; cases h.2)] at hx
    split at hx
    · rename_i h
      obtain ⟨y, hy, hye⟩ := dec_secs (f := true) (s := stream O) (by omega : 1 ≤ 2) (by omega) hO2 (((secs 2 n true (stream O))).getD F []) (by simp [List.getD, h])
      rw [hy] at hx; cases hx; omega
    · rw [dec_zeros] at hx; cases hx
  obtain ⟨b, tl, hb, hbx⟩ := hdrop
  have hne : (stream L).take (56 * F) ≠ [] := by
    intro h
    have := congrArg List.length h
    simp only [List.length_take, List.length_nil] at this
    omega
  have hcl : ((stream L).take (56 * F)).length ≤ 56 * F := by rw [List.length_take]; omega
  have hcnt : (((stream L).take (56 * F)).length + 55) / 56 ≤ F := by omega
  obtain ⟨en, la, g1, _, _⟩ := scan_secs hL (e := 3) (by omega) (by omega) ⟨[], true, n, 1, A, n, 1⟩ (b :: tl) (b := (stream L).take (56 * F)) (z := (stream L).drop (56 * F)) (List.take_append_drop _ _) hne (i := n) (by omega) rfl (by simp) (Nat.le_refl _)
  obtain ⟨_, m, hm⟩ := drain_prefix hL (p := (stream L).take (56 * F)) (q := (stream L).drop (56 * F)) (List.take_append_drop _ _)
  rw [hsplit, hb, secs_take, g1, scan_none]
  · refine ⟨m, (drain ((stream L).take (56 * F))).1, rfl, hm, fun h => ?_⟩
    have ht : (stream L).take (56 * F) = stream L := List.take_of_length_le (by rw [h, cnt]; omega)
    rw [ht, drain_stream L hL]
  · cases hd : dec b with
    | none => exact take_bad hd
    | some x =>
      have := hbx x hd
      rw [take, hd]
      simp only
      rw [if_neg]
      simp [fits, mid]
      omega
/-! ### the disk, as it is laid -/
def zz : List UInt8 := List.replicate 64 0
theorem splice_scells (D X : List (List UInt8)) (o : Nat) : splice (scells D) o (scells X) = scells (splice D o X) := by
  simp [splice, scells, List.map_take, List.map_drop]
theorem fill_step (k : Nat) (hk : k < 120) : (List.replicate k zz ++ List.replicate (120 - k) ([] : List UInt8)).set k zz = List.replicate (k + 1) zz ++ List.replicate (120 - (k + 1)) [] := by
  rw [List.set_append_right _ _ (by simp), List.length_replicate, Nat.sub_self, show 120 - k = (120 - (k + 1)) + 1 by omega, List.replicate_succ, List.set_cons_zero, List.replicate_succ']
  simp
def keptTo (kf : Nat → Bool) (k i : Nat) : Bool := decide (i < k) && kf i
theorem over_length (kept : Nat → Bool) (l o : List (List UInt8)) (N : Nat) : (over kept l o N).length = N := by simp [over]
theorem over_start {kf : Nat → Bool} {SA SO SL : List (List UInt8)} {n M : Nat} (hM : 56 ≤ M) (hA : SA.length = n) (hO : SO.length ≤ 28) (hn : n ≤ 28) :
    splice (splice (List.replicate M zz) 0 SA) n SO = SA ++ over (keptTo kf 0) SL SO (M - n) := by
  subst hA
  simp only [splice, List.take_zero, List.nil_append, Nat.zero_add]
  rw [List.take_left', List.drop_append, List.drop_of_length_le (by omega), List.nil_append]
  · congr 1
    apply List.ext_getElem
    · simp [over]; omega
    · intro i g1 g2
      have hi : i < M - SA.length := by simpa [over] using g2
      simp only [over, List.getElem_map, List.getElem_range]
      rw [if_neg (fun h => by simp [keptTo] at h)]
      by_cases e : i < SO.length
      · rw [if_pos e, List.getElem_append_left e]
        simp [List.getD, e]
      · rw [if_neg e, List.getElem_append_right (by omega), List.getElem_drop, List.getElem_drop, List.getElem_replicate]
        rfl
  · rfl
theorem over_keep {kf : Nat → Bool} {SA SO SL : List (List UInt8)} {n k N : Nat} (hA : SA.length = n) (hk : k < SL.length) (hN : k < N) (hkf : kf k = true) :
    (SA ++ over (keptTo kf k) SL SO N).set (n + k) SL[k] = SA ++ over (keptTo kf (k + 1)) SL SO N := by
  subst hA
  rw [List.set_append_right _ _ (by omega), Nat.add_sub_cancel_left]
  congr 1
  apply List.ext_getElem
  · simp [over]
  · intro i g1 g2
    rw [List.getElem_set]
    simp only [over, List.getElem_map, List.getElem_range]
    by_cases e : k = i
    · subst e
      rw [if_pos rfl, if_pos ⟨hk, by simp [keptTo, hkf]⟩]
      simp [List.getD, hk]
    · rw [if_neg e]
      have : keptTo kf (k + 1) i = keptTo kf k i := by
        unfold keptTo
        congr 1
        exact decide_eq_decide.2 (by omega)
      rw [this]
theorem over_skip {kf : Nat → Bool} {SO SL : List (List UInt8)} {k N : Nat} (hkf : kf k = false) : over (keptTo kf k) SL SO N = over (keptTo kf (k + 1)) SL SO N := by
  unfold over
  apply List.map_congr_left
  intro i _
  have : keptTo kf (k + 1) i = keptTo kf k i := by
    unfold keptTo
    by_cases e : i = k
    · subst e; simp [hkf]
    · congr 1
      exact decide_eq_decide.2 (by omega)
  rw [this]
theorem over_all {kf : Nat → Bool} {SO SL : List (List UInt8)} {N : Nat} : over (keptTo kf SL.length) SL SO N = over kf SL SO N := by
  unfold over
  apply List.map_congr_left
  intro i _
  by_cases e : i < SL.length
  · simp [keptTo, e]
  · simp only [e, false_and, if_false]
theorem drain_count (b : List UInt8) : (drain b).1.length + (drain b).2.1.length ≤ b.length := by
  refine drain_cases (P := fun b => (drain b).1.length + (drain b).2.1.length ≤ b.length) b ?_ ?_ ?_ ?_
  · intro b h; rw [drain_short h]; simp
  · intro b h h0; rw [drain_dead h h0]; simp
  · intro b h h0 hl; rw [drain_part h h0 hl]; simp
  · intro b h h0 hl ih
    rw [drain_more h h0 hl]
    rw [List.length_drop] at ih
    simp only [List.length_cons]
    omega
theorem scan_count : ∀ (l : List (List UInt8)) (s : St), (scan s l).l.length ≤ s.l.length + s.b.length + 56 * l.length
  | [], s => by rw [scan]; omega
  | b :: l, s => by
    cases ht : take s b with
    | none => rw [scan_none _ ht]; simp only [List.length_cons]; omega
    | some s' =>
      obtain ⟨x, hd, _, e⟩ := take_fits ht
      have hp := (secOk_iff.1 (dec_some hd).1).2.2.2.2.2
      rw [scan_some _ ht]
      have ih := scan_count l s'
      have : s'.l.length + s'.b.length ≤ s.l.length + s.b.length + 56 := by
        rw [e]
        unfold eat
        simp only
        have hb1 : ((if x.fresh = true then [] else s.b) ++ x.pay).length ≤ s.b.length + 56 := by
          rw [List.length_append]
          split <;> simp <;> omega
        have hdc := drain_count ((if x.fresh = true then [] else s.b) ++ x.pay)
        split
        · simp only [List.length_append] at hdc hb1 ⊢; omega
        · simp only; omega
      simp only [List.length_cons]
      omega
/-- What is read of the disk. -/
theorem disk_read {kf : Nat → Bool} {n N : Nat} {A L O : List (List UInt8)} (hA : recsOk A) (hAne : A ≠ []) (hn : n = cnt A) (hL : recsOk L) (hLne : L ≠ []) (hO2 : n + cnt O ≤ 65536) (hL2 : n + cnt L ≤ 65536) (hN : cnt L < N) :
    ∃ rest, (scan st0 (secs 1 0 true (stream A) ++ over kf (secs 3 n true (stream L)) (secs 2 n true (stream O)) N)).l = A ++ rest ∧ (0 < firstOf kf (cnt L) 0 → ∃ m, rest ++ m = L ∧ (firstOf kf (cnt L) 0 = cnt L → rest = L)) := by
  have h0 := scan_batch hA hAne (e := 1) (by omega) (by omega) st0 (over kf (secs 3 n true (stream L)) (secs 2 n true (stream O)) N) (i := 0) (by omega) rfl (by simp [st0]) (by simp [st0])
  rw [Nat.zero_add, ← hn, show st0.l ++ A = A from rfl] at h0
  rw [h0]
  by_cases hf : 0 < firstOf kf (cnt L) 0
  · obtain ⟨m, rest, h1, h2, h3⟩ := over_read (A := A) (O := O) hL hLne hO2 hL2 hN hf
    exact ⟨rest, h1, fun _ => ⟨m, h2, h3⟩⟩
  · obtain ⟨m, hm⟩ := scan_ext (over kf (secs 3 n true (stream L)) (secs 2 n true (stream O)) N) ⟨[], true, n, 1, A, n, 1⟩
    exact ⟨m, hm, fun h => absurd h hf⟩
theorem disk_dec {kf : Nat → Bool} {n N : Nat} {A L O : List (List UInt8)} (hA : cnt A ≤ 65536) (hO2 : n + cnt O ≤ 65536) (hL2 : n + cnt L ≤ 65536) :
    ∀ b ∈ secs 1 0 true (stream A) ++ over kf (secs 3 n true (stream L)) (secs 2 n true (stream O)) N, ∀ x, dec b = some x → x.epoch ≤ 3 := by
  intro b hb x hx
  rcases List.mem_append.1 hb with h | h
  · obtain ⟨y, hy, hye⟩ := dec_secs (by omega : 1 ≤ 1) (by omega) (by rw [Nat.zero_add]; exact hA) b h
    rw [hy] at hx; cases hx; omega
  · exact over_dec hO2 hL2 b h x hx
end Go.Proofs.Ytaecfgakgpndaaa
