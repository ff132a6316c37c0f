/- Log records as plain data: which may be, their bytes, what is read of bytes. No condition. -/
import Derived.Test.YtofejnhnnmnfpaaDoorKAll
namespace Go.Proofs.YtofejnhnnmnfpaaDoor.Rc
set_option maxRecDepth 100000

/-- A cell, a patch, a transaction, a record. -/
structure Cl where
  key : List UInt8
  val : List UInt8
  blob : Int
  size : Int
  deriving DecidableEq
structure Pt where
  page : Int
  at_ : Int
  bytes : List UInt8
  deriving DecidableEq
structure Tt where
  tx : Int
  last : Int
  com : Bool
  pages : List Int
  deriving DecidableEq
structure Rec where
  kind : Int
  tx : Int
  prev : Int
  next : Int
  key : List UInt8
  had : Bool
  old : Cl
  pages : List Int
  pats : List Pt
  txs : List Tt
  dirty : List (Int × Int)
  deriving DecidableEq
def Cl.zero : Cl := ⟨[], [], 0, 0⟩
def Rec.zero : Rec := ⟨0, 0, 0, 0, [], false, Cl.zero, [], [], [], []⟩

/-! ### which may be -/
def short (x : Int) : Bool := decide (0 ≤ x) && decide (x ≤ 65535)
def long (x : Int) : Bool := decide (0 ≤ x) && decide (x ≤ 4294967295)
def pagesOk (l : List Int) : Bool := decide (l.length ≤ 64) && l.all short
def cellOk (c : Cl) : Bool := (decide (c.key ≠ []) && decide (c.key.length ≤ 16)) && (if c.blob = 0 then decide (c.val.length ≤ 40) && decide (c.size = 0) else decide (2 ≤ c.blob) && decide (c.blob < 64) && decide (c.val = []) && decide (40 < c.size) && decide (c.size ≤ 400))
def patOk (p : Pt) : Bool := decide (0 ≤ p.page) && decide (p.page < 64) && decide (0 ≤ p.at_) && decide (p.at_ < 256) && decide (p.bytes ≠ []) && decide ((p.bytes.length : Int) ≤ 256 - p.at_)
def txOk (t : Tt) : Bool := short t.tx && long t.last && pagesOk t.pages
def dirOk (d : Int × Int) : Bool := short d.1 && long d.2
def recOk (r : Rec) : Bool :=
  (decide (1 ≤ r.kind) && decide (r.kind ≤ 7)) && short r.tx && long r.prev && long r.next && decide (r.key.length ≤ 255) &&
  (decide (r.old = Cl.zero) || cellOk r.old) && pagesOk r.pages && decide (r.pats.length ≤ 40) && decide (r.txs.length ≤ 8) && decide (r.dirty.length ≤ 64) &&
  r.pats.all patOk && r.txs.all txOk && r.dirty.all dirOk

/-! ### their bytes -/
def n2 (x : Int) : List UInt8 := be 2 x.toNat
def n4 (x : Int) : List UInt8 := be 4 x.toNat
def tt (s : List UInt8) : List UInt8 := be 2 s.length ++ s
def yes (b : Bool) : List UInt8 := be 2 (if b = true then 1 else 0)
def nums (l : List Int) : List UInt8 := be 2 l.length ++ l.flatMap n2
def pte (p : Pt) : List UInt8 := n2 p.page ++ n2 p.at_ ++ tt p.bytes
def txe (t : Tt) : List UInt8 := n2 t.tx ++ n4 t.last ++ yes t.com ++ nums t.pages
def die (d : Int × Int) : List UInt8 := n2 d.1 ++ n4 d.2
def enc (r : Rec) : List UInt8 :=
  n2 r.kind ++ n2 r.tx ++ n4 r.prev ++ n4 r.next ++ tt r.key ++ yes r.had ++ tt r.old.key ++ tt r.old.val ++ n2 r.old.blob ++ n2 r.old.size ++ nums r.pages ++
  (be 2 r.pats.length ++ r.pats.flatMap pte) ++ (be 2 r.txs.length ++ r.txs.flatMap txe) ++ (be 2 r.dirty.length ++ r.dirty.flatMap die)

/-! ### what is read -/
abbrev Rs := List UInt8 × Bool
def q2 (s : Rs) : Nat × Rs := rnum 2 s.1 s.2
def q4 (s : Rs) : Nat × Rs := rnum 4 s.1 s.2
def qt (s : Rs) : List UInt8 × Rs := rtext s.1 s.2
/-- So many, as long as it is not bad. -/
def qmany {α : Type} (f : Rs → α × Rs) : Nat → Rs → List α × Rs
  | 0, s => ([], s)
  | n + 1, s => if s.2 = true then ([], s) else ((f s).1 :: (qmany f n (f s).2).1, (qmany f n (f s).2).2)
def qnums (s : Rs) : List Int × Rs := qmany (fun s => (((q2 s).1 : Int), (q2 s).2)) (q2 s).1 (q2 s).2
def qpat (s : Rs) : Pt × Rs := (⟨(q2 s).1, (q2 (q2 s).2).1, (qt (q2 (q2 s).2).2).1⟩, (qt (q2 (q2 s).2).2).2)
def qtx (s : Rs) : Tt × Rs := (⟨(q2 s).1, (q4 (q2 s).2).1, decide ((q2 (q4 (q2 s).2).2).1 = 1), (qnums (q2 (q4 (q2 s).2).2).2).1⟩, (qnums (q2 (q4 (q2 s).2).2).2).2)
def qdir (s : Rs) : (Int × Int) × Rs := ((((q2 s).1 : Int), ((q4 (q2 s).2).1 : Int)), (q4 (q2 s).2).2)
/-! ### what is written is read -/
theorem q2_be (x : Nat) (l : List UInt8) (h : x < 65536) : q2 (be 2 x ++ l, false) = (x, l, false) := rnum2 x l h
theorem q4_be (x : Nat) (l : List UInt8) (h : x < 4294967296) : q4 (be 4 x ++ l, false) = (x, l, false) := rnum4 x l h
theorem qt_tt (s l : List UInt8) (h : s.length < 65536) : qt (tt s ++ l, false) = (s, l, false) := by
  have := rtext_be s l h
  simpa [qt, tt, List.append_assoc] using this
theorem short_n2 {x : Int} (h : short x = true) (l : List UInt8) : q2 (n2 x ++ l, false) = (x.toNat, l, false) ∧ ((x.toNat : Nat) : Int) = x := by
  have h' : 0 ≤ x ∧ x ≤ 65535 := by simpa [short] using h
  exact ⟨q2_be _ _ (by omega), by omega⟩
theorem long_n4 {x : Int} (h : long x = true) (l : List UInt8) : q4 (n4 x ++ l, false) = (x.toNat, l, false) ∧ ((x.toNat : Nat) : Int) = x := by
  have h' : 0 ≤ x ∧ x ≤ 4294967295 := by simpa [long] using h
  exact ⟨q4_be _ _ (by omega), by omega⟩
theorem qmany_flat {α : Type} (f : Rs → α × Rs) (e : α → List UInt8) : ∀ (xs : List α) (l : List UInt8), (∀ x ∈ xs, ∀ l, f (e x ++ l, false) = (x, l, false)) → qmany f xs.length (xs.flatMap e ++ l, false) = (xs, l, false)
  | [], l, _ => rfl
  | x :: xs, l, h => by
    have hx := h x (by simp) (xs.flatMap e ++ l)
    have ih := qmany_flat f e xs l (fun y hy => h y (by simp [hy]))
    rw [List.length_cons, List.flatMap_cons, List.append_assoc]
    simp only [qmany, Bool.false_eq_true, if_false]
    rw [hx]
    simp only
    rw [ih]
theorem pages_q {l : List Int} (h : pagesOk l = true) (r : List UInt8) : qnums (nums l ++ r, false) = (l, r, false) := by
  have h' : l.length ≤ 64 ∧ ∀ x ∈ l, short x = true := by simpa [pagesOk] using h
  unfold qnums nums
  rw [List.append_assoc, q2_be _ _ (by omega)]
  refine qmany_flat _ n2 l r fun x hx r => ?_
  obtain ⟨h1, h2⟩ := short_n2 (h'.2 x hx) r
  rw [h1]
  simp [h2]
theorem pat_q {p : Pt} (h : patOk p = true) (r : List UInt8) : qpat (pte p ++ r, false) = (p, r, false) := by
  have h' : 0 ≤ p.page ∧ p.page < 64 ∧ 0 ≤ p.at_ ∧ p.at_ < 256 ∧ (p.bytes.length : Int) ≤ 256 - p.at_ := by
    simp only [patOk, Bool.and_eq_true, decide_eq_true_eq] at h
    omega
  have s1 : short p.page = true := by simp [short]; omega
  have s2 : short p.at_ = true := by simp [short]; omega
  unfold qpat pte
  rw [List.append_assoc, List.append_assoc, (short_n2 s1 _).1]
  simp only
  rw [(short_n2 s2 _).1]
  simp only
  rw [qt_tt _ _ (by omega)]
  obtain ⟨a, b, c⟩ := p
  simp only at h'
  simp only [Prod.mk.injEq, Pt.mk.injEq, and_true]
  omega
theorem yes_q (b : Bool) (r : List UInt8) : ∃ n, q2 (yes b ++ r, false) = (n, r, false) ∧ decide (n = 1) = b := by
  cases b
  · exact ⟨0, q2_be 0 r (by omega), rfl⟩
  · exact ⟨1, q2_be 1 r (by omega), rfl⟩
theorem yes_q2 (b : Bool) (r : List UInt8) : q2 (yes b ++ r, false) = (if b = true then 1 else 0, r, false) := by cases b <;> exact q2_be _ r (by decide)
theorem yes_q3 (b : Bool) : decide ((if b = true then (1 : Nat) else 0) = 1) = b := by cases b <;> rfl
theorem tx_q {t : Tt} (h : txOk t = true) (r : List UInt8) : qtx (txe t ++ r, false) = (t, r, false) := by
  have h' : short t.tx = true ∧ long t.last = true ∧ pagesOk t.pages = true := by simpa [txOk, and_assoc] using h
  obtain ⟨k1, k2⟩ := short_n2 h'.1 (n4 t.last ++ (yes t.com ++ (nums t.pages ++ r)))
  obtain ⟨k3, k4⟩ := long_n4 h'.2.1 (yes t.com ++ (nums t.pages ++ r))
  obtain ⟨n, k5, k6⟩ := yes_q t.com (nums t.pages ++ r)
  have k7 := pages_q h'.2.2 r
  unfold qtx txe
  simp only [List.append_assoc]
  rw [k1]
  simp only
  rw [k3]
  simp only
  rw [k5]
  simp only
  rw [k7, k2, k4, k6]
theorem dir_q {d : Int × Int} (h : dirOk d = true) (r : List UInt8) : qdir (die d ++ r, false) = (d, r, false) := by
  have h' : short d.1 = true ∧ long d.2 = true := by simpa [dirOk] using h
  obtain ⟨k1, k2⟩ := short_n2 h'.1 (n4 d.2 ++ r)
  obtain ⟨k3, k4⟩ := long_n4 h'.2 r
  unfold qdir die
  simp only [List.append_assoc]
  rw [k1]
  simp only
  rw [k3, k2, k4]
/-- What is read of bytes, field by field. -/
def Parsed (b : List UInt8) (x : Rec) (s : Rs) : Prop :=
  ∃ (k t p n h bl sz np nt nd : Nat) (s1 s2 s3 s4 s5 s6 s7 s8 s9 s10 s11 s12 s13 sa sb sc : Rs),
    q2 (b, false) = (k, s1) ∧ q2 s1 = (t, s2) ∧ q4 s2 = (p, s3) ∧ q4 s3 = (n, s4) ∧ qt s4 = (x.key, s5) ∧ q2 s5 = (h, s6) ∧ qt s6 = (x.old.key, s7) ∧ qt s7 = (x.old.val, s8) ∧ q2 s8 = (bl, s9) ∧ q2 s9 = (sz, s10) ∧ qnums s10 = (x.pages, s11) ∧
    q2 s11 = (np, sa) ∧ qmany qpat np sa = (x.pats, s12) ∧ q2 s12 = (nt, sb) ∧ qmany qtx nt sb = (x.txs, s13) ∧ q2 s13 = (nd, sc) ∧ qmany qdir nd sc = (x.dirty, s) ∧
    x.kind = k ∧ x.tx = t ∧ x.prev = p ∧ x.next = n ∧ x.had = decide (h = 1) ∧ x.old.blob = bl ∧ x.old.size = sz
theorem cell_small {c : Cl} (h : c = Cl.zero ∨ cellOk c = true) : c.key.length < 65536 ∧ c.val.length < 65536 ∧ short c.blob = true ∧ short c.size = true := by
  rcases h with rfl | h
  · exact ⟨by decide, by decide, by decide, by decide⟩
  · simp only [cellOk, Bool.and_eq_true, decide_eq_true_eq] at h
    obtain ⟨⟨_, h1⟩, h2⟩ := h
    by_cases hb : c.blob = 0
    · rw [if_pos hb] at h2
      simp only [Bool.and_eq_true, decide_eq_true_eq] at h2
      rw [hb, h2.2]
      exact ⟨by omega, by omega, by decide, by decide⟩
    · rw [if_neg hb] at h2
      simp only [Bool.and_eq_true, decide_eq_true_eq] at h2
      obtain ⟨⟨⟨⟨h3, h4⟩, h5⟩, h6⟩, h7⟩ := h2
      rw [h5]
      exact ⟨by omega, by simp, by simp [short]; omega, by simp [short]; omega⟩
/-- A record's parts. -/
structure RecOk (r : Rec) : Prop where
  kind : 1 ≤ r.kind ∧ r.kind ≤ 7
  tx : short r.tx = true
  prev : long r.prev = true
  next : long r.next = true
  key : r.key.length ≤ 255
  old : r.old = Cl.zero ∨ cellOk r.old = true
  pages : pagesOk r.pages = true
  pats : r.pats.length ≤ 40
  txs : r.txs.length ≤ 8
  dirty : r.dirty.length ≤ 64
  patsOk : ∀ p ∈ r.pats, patOk p = true
  txsOk : ∀ t ∈ r.txs, txOk t = true
  dirtyOk : ∀ d ∈ r.dirty, dirOk d = true
theorem recOk_iff (r : Rec) : recOk r = true ↔ RecOk r := by
  simp only [recOk, Bool.and_eq_true, Bool.or_eq_true, decide_eq_true_eq, List.all_eq_true]
  constructor
  · rintro ⟨⟨⟨⟨⟨⟨⟨⟨⟨⟨⟨⟨h0, h1⟩, h2⟩, h3⟩, h4⟩, h5⟩, h6⟩, h7⟩, h8⟩, h9⟩, h10⟩, h11⟩, h12⟩
    exact ⟨h0, h1, h2, h3, h4, h5, h6, h7, h8, h9, h10, h11, h12⟩
  · rintro ⟨h0, h1, h2, h3, h4, h5, h6, h7, h8, h9, h10, h11, h12⟩
    exact ⟨⟨⟨⟨⟨⟨⟨⟨⟨⟨⟨⟨h0, h1⟩, h2⟩, h3⟩, h4⟩, h5⟩, h6⟩, h7⟩, h8⟩, h9⟩, h10⟩, h11⟩, h12⟩
theorem parsed_enc2 {r x : Rec} {s : Rs} {l : List UInt8} (h : RecOk r) (hp : Parsed (enc r ++ l) x s) : x = r ∧ s = (l, false) := by
  obtain ⟨k, t, p, n, hd, bl, sz, np, nt, nd, s1, s2, s3, s4, s5, s6, s7, s8, s9, s10, s11, s12, s13, sa, sb, sc, e1, e2, e3, e4, e5, e6, e7, e8, e9, e10, e11, e12, e13, e14, e15, e16, e17, f1, f2, f3, f4, f5, f6, f7⟩ := hp
  have hk : short r.kind = true := by have := h.kind; simp [short]; omega
  obtain ⟨c1, c2, c3, c4⟩ := cell_small h.old
  have hl12 := h.pats
  have hl14 := h.txs
  have hl16 := h.dirty
  have hlk := h.key
  unfold enc at e1
  simp only [List.append_assoc] at e1
  rw [(short_n2 hk _).1] at e1
  have g1' := (short_n2 hk []).2
  obtain ⟨rfl, rfl⟩ := Prod.mk.inj e1
  rw [(short_n2 h.tx _).1] at e2
  have g2' := (short_n2 h.tx []).2
  obtain ⟨rfl, rfl⟩ := Prod.mk.inj e2
  rw [(long_n4 h.prev _).1] at e3
  have g3' := (long_n4 h.prev []).2
  obtain ⟨rfl, rfl⟩ := Prod.mk.inj e3
  rw [(long_n4 h.next _).1] at e4
  have g4' := (long_n4 h.next []).2
  obtain ⟨rfl, rfl⟩ := Prod.mk.inj e4
  rw [qt_tt _ _ (by omega)] at e5
  obtain ⟨k5, rfl⟩ := Prod.mk.inj e5
  rw [yes_q2] at e6
  obtain ⟨rfl, rfl⟩ := Prod.mk.inj e6
  rw [qt_tt _ _ c1] at e7
  obtain ⟨k7, rfl⟩ := Prod.mk.inj e7
  rw [qt_tt _ _ c2] at e8
  obtain ⟨k8, rfl⟩ := Prod.mk.inj e8
  rw [(short_n2 c3 _).1] at e9
  have g9' := (short_n2 c3 []).2
  obtain ⟨rfl, rfl⟩ := Prod.mk.inj e9
  rw [(short_n2 c4 _).1] at e10
  have g10' := (short_n2 c4 []).2
  obtain ⟨rfl, rfl⟩ := Prod.mk.inj e10
  rw [pages_q h.pages] at e11
  obtain ⟨k11, rfl⟩ := Prod.mk.inj e11
  rw [q2_be _ _ (by omega)] at e12
  obtain ⟨rfl, rfl⟩ := Prod.mk.inj e12
  rw [qmany_flat qpat pte r.pats _ (fun p hp l => pat_q (h.patsOk p hp) l)] at e13
  obtain ⟨k13, rfl⟩ := Prod.mk.inj e13
  rw [q2_be _ _ (by omega)] at e14
  obtain ⟨rfl, rfl⟩ := Prod.mk.inj e14
  rw [qmany_flat qtx txe r.txs _ (fun p hp l => tx_q (h.txsOk p hp) l)] at e15
  obtain ⟨k15, rfl⟩ := Prod.mk.inj e15
  rw [q2_be _ _ (by omega)] at e16
  obtain ⟨rfl, rfl⟩ := Prod.mk.inj e16
  have e18 := qmany_flat qdir die r.dirty l (fun p hp l => dir_q (h.dirtyOk p hp) l)
  rw [e18] at e17
  obtain ⟨k17, rfl⟩ := Prod.mk.inj e17
  refine ⟨?_, rfl⟩
  obtain ⟨x1, x2, x3, x4, x5, x6, ⟨y1, y2, y3, y4⟩, x8, x9, x10, x11⟩ := x
  obtain ⟨r1, r2, r3, r4, r5, r6, ⟨z1, z2, z3, z4⟩, r8, r9, r10, r11⟩ := r
  simp only at *
  simp only [Rec.mk.injEq, Cl.mk.injEq]
  rw [yes_q3] at f5
  refine ⟨by omega, by omega, by omega, by omega, k5.symm, f5, ⟨k7.symm, k8.symm, by omega, by omega⟩, k11.symm, k13.symm, k15.symm, k17.symm⟩
theorem parsed_enc {r x : Rec} {s : Rs} (h : RecOk r) (hp : Parsed (enc r) x s) : x = r ∧ s = ([], false) := parsed_enc2 h (by rw [List.append_nil]; exact hp)
theorem enc_inj {r x : Rec} (h : RecOk r) (k : RecOk x) (e : enc r = enc x) (hp : ∃ y s, Parsed (enc r) y s) : r = x := by
  obtain ⟨y, s, hp⟩ := hp
  have h1 := (parsed_enc h hp).1
  rw [e] at hp
  exact h1.symm.trans (parsed_enc k hp).1
theorem parsed_ex (b : List UInt8) : ∃ x s, Parsed b x s := by
  refine ⟨⟨_, _, _, _, _, _, ⟨_, _, _, _⟩, _, _, _, _⟩, _, _, _, _, _, _, _, _, _, _, _, _, _, _, _, _, _, _, _, _, _, _, _, _, _, _, _, rfl, rfl, rfl, rfl, rfl, rfl, rfl, rfl, rfl, rfl, rfl, rfl, rfl, rfl, rfl, rfl, rfl, rfl, rfl, rfl, rfl, rfl, rfl, rfl⟩
/-- No record's bytes begin another's. -/
theorem enc_free {r x : Rec} {l : List UInt8} (h : RecOk r) (k : RecOk x) (e : enc x = enc r ++ l) : l = [] := by
  obtain ⟨y, s, hp⟩ := parsed_ex (enc x)
  have h1 := (parsed_enc k hp).2
  rw [e] at hp
  have h2 := (parsed_enc2 h hp).2
  rw [h1] at h2
  exact (Prod.mk.inj h2).1.symm
/-! ### how many bytes -/
theorem patsum (l : List Pt) : (l.flatMap pte).length = (l.map fun p => 6 + p.bytes.length).sum := by
  induction l with
  | nil => rfl
  | cons p l ih => rw [List.flatMap_cons, List.length_append, ih]; simp [pte, n2, tt, be_length]; omega
theorem numslen (l : List Int) : (nums l).length = 2 + 2 * l.length := by
  have : (l.flatMap n2).length = 2 * l.length := by
    induction l with
    | nil => rfl
    | cons x l ih => rw [List.flatMap_cons, List.length_append, ih]; simp [n2, be_length]; omega
  simp [nums, be_length, this]
theorem txsum (l : List Tt) : (l.flatMap txe).length = (l.map fun t => 10 + 2 * t.pages.length).sum := by
  induction l with
  | nil => rfl
  | cons p l ih => rw [List.flatMap_cons, List.length_append, ih]; simp [txe, n2, n4, yes, numslen, be_length]; omega
theorem dirsum (l : List (Int × Int)) : (l.flatMap die).length = 6 * l.length := by
  induction l with
  | nil => rfl
  | cons p l ih => rw [List.flatMap_cons, List.length_append, ih]; simp [die, n2, n4, be_length]; omega
theorem enc_length (r : Rec) : (enc r).length = 32 + r.key.length + r.old.key.length + r.old.val.length + 2 * r.pages.length + (r.pats.map fun p => 6 + p.bytes.length).sum + (r.txs.map fun t => 10 + 2 * t.pages.length).sum + 6 * r.dirty.length := by
  simp only [enc, List.length_append, patsum, txsum, dirsum, numslen]
  simp only [n2, n4, tt, yes, be_length, List.length_append]
  omega
end Go.Proofs.YtofejnhnnmnfpaaDoor.Rc
