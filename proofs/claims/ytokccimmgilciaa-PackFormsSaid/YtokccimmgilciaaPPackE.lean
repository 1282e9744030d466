/-
  A proof out of bytes, in plain Lean: the parser; the program's reader. Own work; no claim stands here.
-/
import Derived.Test.YtokccimmgilciaaPPackD
namespace Go.Proofs.Ytokccimmgilciaa
open S
set_option linter.unusedVariables false
set_option linter.unusedSimpArgs false
set_option maxRecDepth 100000

/-! ### The parser -/
def val (bs : List Int) : Int := bs.foldl (fun x b => x * 256 + b) 0
def pnum (n : Nat) (L : List Int) : Option (Int × List Int) := if L.length < n then none else some (val (L.take n), L.drop n)
def pmany {T : Type} (p : List Int → Option (T × List Int)) : Nat → List Int → Option (List T × List Int)
  | 0, L => some ([], L)
  | n + 1, L => (p L).bind fun a => (pmany p n a.2).bind fun b => some (a.1 :: b.1, b.2)
def ppick (L : List Int) : Option (Pick × List Int) := (pnum 2 L).bind fun a => (pnum 1 a.2).bind fun b => (pnum 1 b.2).bind fun n => (pmany (pnum 4) n.1.toNat n.2).bind fun k => some (⟨a.1, b.1, k.1⟩, k.2)
instance (x : Node) : Decidable (shapeOk x) := by unfold shapeOk; infer_instance
def sg (s : Int) : Bool := decide (s = 1)
def nodeT (s : Int) (x : Node) : Bool := decide (s ≤ 1 ∧ shapeOk x)
def pnode (L : List Int) : Option (Node × List Int) :=
  (pnum 1 L).bind fun s => (pnum 1 s.2).bind fun a => (pnum 2 a.2).bind fun b => (pnum 2 b.2).bind fun c => (pnum 1 c.2).bind fun d => (pnum 1 d.2).bind fun e => (pnum 1 e.2).bind fun i => (pnum 1 i.2).bind fun j => (pnum 4 j.2).bind fun r => (pnum 2 r.2).bind fun n =>
    (pmany ppick n.1.toNat n.2).bind fun q => bif nodeT s.1 ⟨sg s.1, a.1, b.1, ⟨c.1, d.1, e.1⟩, i.1, j.1, r.1, q.1⟩ then some (⟨sg s.1, a.1, b.1, ⟨c.1, d.1, e.1⟩, i.1, j.1, r.1, q.1⟩, q.2) else none
def pcert (L : List Int) : Option (Cert × List Int) :=
  if L.take 2 = [84, 67] then (pnum 4 (L.drop 2)).bind fun r => (pnum 4 r.2).bind fun n => bif decide (n.1 ≤ 65536) then (pmany pnode n.1.toNat n.2).bind fun q => some (⟨r.1, q.1⟩, q.2) else none else none
/-- What Get answers. -/
def getR (L : List Int) : Cert × Int := if 1048576 < L.length then (⟨0, []⟩, 1801) else match pcert L with
  | some (c, []) => (c, 0)
  | _ => (⟨0, []⟩, 1800)

theorem pmany_succ {T : Type} (p : List Int → Option (T × List Int)) : ∀ (n : Nat) (L : List Int), pmany p (n + 1) L = (pmany p n L).bind fun a => (p a.2).bind fun b => some (a.1 ++ [b.1], b.2) := by
  intro n
  induction n with
  | zero =>
    intro L
    simp only [pmany, Option.bind_some]
    cases p L <;> rfl
  | succ n ih =>
    intro L
    rw [pmany]
    cases h : p L with
    | none => simp [pmany, h]
    | some a =>
      simp only [Option.bind_some]
      rw [ih]
      rw [pmany, h]
      simp only [Option.bind_some]
      cases h2 : pmany p n a.2 with
      | none => rfl
      | some b =>
        simp only [Option.bind_some]
        cases h3 : p b.2 <;> simp
theorem pmany_none {T : Type} {p : List Int → Option (T × List Int)} {n m : Nat} {L : List Int} (h : pmany p n L = none) (hm : n ≤ m) : pmany p m L = none := by
  induction m with
  | zero => have : n = 0 := by omega
            subst this; exact h
  | succ m ih =>
    rcases Nat.lt_or_ge m n with h' | h'
    · have : n = m + 1 := by omega
      subst this; exact h
    · rw [pmany_succ, ih h']; rfl
theorem pmany_len {T : Type} {p : List Int → Option (T × List Int)} : ∀ {n : Nat} {L : List Int} {r : List T × List Int}, pmany p n L = some r → r.1.length = n := by
  intro n
  induction n with
  | zero => intro L r h; simp [pmany] at h; subst h; rfl
  | succ n ih =>
    intro L r h
    rw [pmany] at h
    cases h1 : p L with
    | none => rw [h1] at h; cases h
    | some a =>
      rw [h1, Option.bind_some] at h
      cases h2 : pmany p n a.2 with
      | none => rw [h2] at h; cases h
      | some b =>
        rw [h2, Option.bind_some] at h
        cases h
        simp [ih h2]

/-! ### Numbers out of bytes -/
theorem val1 (a : Int) : val [a] = a := by simp [val]
theorem val2 (a b : Int) : val [a, b] = a * 256 + b := by simp [val]
theorem val4 (a b c d : Int) : val [a, b, c, d] = ((a * 256 + b) * 256 + c) * 256 + d := by simp [val]
theorem val_app (a : List Int) (b : Int) : val (a ++ [b]) = val a * 256 + b := by simp [val]

theorem ior_i64 {a b : Nat} (ha : a < 2 ^ 63) (hb : b < 2 ^ 63) : ior .i64 (a : Int) (b : Int) = ((a ||| b : Nat) : Int) := by
  unfold ior
  rw [show IntKind.i64.bits = 64 from rfl, BitVec.ofInt_natCast, BitVec.ofInt_natCast, BitVec.toNat_or, BitVec.toNat_ofNat, BitVec.toNat_ofNat, Nat.mod_eq_of_lt (by omega), Nat.mod_eq_of_lt (by omega)]
  have := Nat.or_lt_two_pow ha hb
  rw [wr (by omega) (by omega)]
theorem shift_or {x b : Int} (h0 : 0 ≤ x) (h1 : x < 16777216) (b0 : 0 ≤ b) (b1 : b < 256) : ior .i64 (ishl .i64 x 8) (IntKind.wrap .i64 b) = x * 256 + b := by
  obtain ⟨n, rfl⟩ := Int.eq_ofNat_of_zero_le h0
  obtain ⟨m, rfl⟩ := Int.eq_ofNat_of_zero_le b0
  have e : ishl .i64 (n : Int) 8 = ((n <<< 8 : Nat) : Int) := by
    unfold ishl
    rw [show min (8 : Int).toNat IntKind.i64.bits = 8 from rfl, wr (by omega) (by omega), Nat.shiftLeft_eq]
    simp
  rw [e, wr (a := (m : Int)) (by omega) (by omega), ior_i64 (by rw [Nat.shiftLeft_eq]; omega) (by omega), ← Nat.shiftLeft_add_eq_or_of_lt (by omega), Nat.shiftLeft_eq]
  omega

theorem bt_rd (s : ByteArray) (i : Int) : bt s i = rd (bytesL s) i := by
  unfold bt rd bytesL
  rw [List.getD_eq_getElem?_getD, List.getElem?_map, Array.getD_eq_getD_getElem?, ← Array.getElem?_toList]
  cases s.data.toList[i.toNat]? <;> rfl
theorem bytesL_sls (s : ByteArray) (a b : Int) : bytesL (sls s a b) = ((bytesL s).take b.toNat).drop a.toNat := by
  unfold bytesL sls
  rw [ByteArray.data_extract, Array.toList_extract]
  simp [List.extract, List.map_drop, List.map_take, List.drop_take]

/-! ### The program's reader -/
def Out {T : Type} (o : Option (T × List Int)) (v : T) (r : Pack_reader) : Prop := match o with
  | none => r.bad = true
  | some (x, L) => v = x ∧ r.bad = false ∧ bytesL r.s = L

theorem rnum_l0 (K : Nat) (r : Pack_reader) (L : List Int) (hL : bytesL r.s = L) (n : Nat) (hn : n ≤ 4) (hl : n ≤ L.length) (m : Nat) (hm : n < m) : ∃ t, pack_reader_num.l0 K r n m (0, 0) = some (val (L.take n), t) := by
  have hsz : r.s.size = L.length := by rw [← hL, bytesL_length]
  have := rounds (L := pack_reader_num.l0 K r n) (fun s => ∃ t : Nat, s.2 = t ∧ t ≤ n ∧ s.1 = val (L.take t) ∧ 0 ≤ s.1 ∧ s.1 < 256 ^ t) (fun s => n - s.2.toNat) (fun q => q.1 = val (L.take n)) (fun s m hI => ?_) m (0, 0) ⟨0, rfl, by omega, by simp [val], by simp, by simp⟩ (by simp only [Int.toNat_zero]; omega)
  · obtain ⟨⟨x, t⟩, h1, h2⟩ := this
    exact ⟨t, by rw [h1]; simp only at h2; rw [h2]⟩
  obtain ⟨x, t'⟩ := s
  obtain ⟨t, rfl, ht, hx, hx0, hx1⟩ := hI
  simp only at hx hx0 hx1
  simp only [pack_reader_num.l0]
  by_cases hlt : (t : Int) < n
  · have hlt' : t < n := by omega
    have hby := bytesL_byt r.s
    rw [hL] at hby
    obtain ⟨b0, b1⟩ := hby (rd L (t : Int)) (rd_mem (Int.natCast_nonneg t) (by omega))
    have hx2 : x < 16777216 := by
      have : t ≤ 3 := by omega
      have : (256 : Int) ^ t ≤ 256 ^ 3 := by exact_mod_cast Nat.pow_le_pow_right (by decide) this
      have : (256 : Int) ^ 3 = 16777216 := rfl
      omega
    rw [if_pos hlt, if_pos (Int.natCast_nonneg t), if_pos (by omega), bt_rd, hL, shift_or hx0 hx2 b0 b1, wr (a := (t : Int) + 1) (by omega) (by omega)]
    have e : L.take (t + 1) = L.take t ++ [rd L (t : Int)] := by
      rw [List.take_add_one, rd_nat]
      have : t < L.length := by omega
      simp [List.getD_eq_getElem?_getD, this]
    refine .inr ⟨(_, (t : Int) + 1), ⟨t + 1, by simp, by omega, by simp only; rw [e, val_app, hx], by simp only; omega, ?_⟩, by simp only; omega, rfl⟩
    simp only
    rw [Int.pow_succ]; omega
  · have : t = n := by omega
    subst this
    rw [if_neg hlt]
    exact .inl ⟨_, rfl, hx⟩

theorem rnum_spec (K : Nat) (hK : 6 ≤ K) (r : Pack_reader) (hb : r.bad = false) (hsz : r.s.size ≤ 1099511627776) (n : Nat) (hn : n ≤ 4) : ∃ v r', pack_reader_num K r n = some (v, r') ∧ Out (pnum n (bytesL r.s)) v r' ∧ r'.s.size ≤ r.s.size := by
  unfold pack_reader_num pnum
  rw [hb, if_neg (by decide), Option.bind_some, bytesL_length]
  by_cases hlt : r.s.size < n
  · rw [decide_eq_true (by omega), if_pos rfl, if_pos hlt]
    exact ⟨_, _, rfl, rfl, Nat.le_refl _⟩
  · obtain ⟨t, h1⟩ := rnum_l0 K r _ rfl n hn (by rw [bytesL_length]; omega) K (by omega)
    rw [decide_eq_false (by omega), if_neg (by decide), if_neg hlt, h1]
    simp only [Option.bind_some]
    rw [if_pos (Int.natCast_nonneg n), if_pos (by omega)]
    refine ⟨_, _, rfl, ⟨rfl, rfl, ?_⟩, ?_⟩
    · rw [bytesL_sls, Int.toNat_natCast, Int.toNat_natCast, ← bytesL_length, List.take_length]
    · have := congrArg List.length (bytesL_sls r.s (n : Int) (r.s.size : Int))
      rw [bytesL_length, List.length_drop, List.length_take, bytesL_length] at this
      show (sls r.s (n : Int) (r.s.size : Int)).size ≤ r.s.size
      omega
theorem rnum_bad (K : Nat) (r : Pack_reader) (hb : r.bad = true) (n : Int) : pack_reader_num K r n = some (0, ⟨r.s, true⟩) := by
  unfold pack_reader_num
  rw [hb, if_pos rfl, Option.bind_some, if_pos rfl]

/-- Records, till bytes are wanting: the loop of 'many', whatever its record. -/
theorem many_loop {T : Type} (L : Nat → (List T × ByteArray × Bool × Int) → Option (List T × ByteArray × Bool × Int)) (f : Pack_reader → Option (T × Pack_reader)) (p : List Int → Option (T × List Int))
    (hL : ∀ m xs s b n, L (m + 1) (xs, s, b, n) = if 0 < n then if (!b) = true then (f (⟨s, b⟩ : Pack_reader)).bind fun r_12 => if (xs.length + ([r_12.1] : List T).length) * 16 ≤ 140737488355328 then L m (xs ++ ([r_12.1] : List T), r_12.2.s, r_12.2.bad, IntKind.wrap .i64 (n - 1)) else none else some (xs, s, b, n) else some (xs, s, b, n))
    (bound : Nat) (hf : ∀ r : Pack_reader, r.bad = false → r.s.size ≤ bound → ∃ v r', f r = some (v, r') ∧ Out (p (bytesL r.s)) v r' ∧ r'.s.size ≤ r.s.size) (N : Nat) (hN : N ≤ 4294967296) (r0 : Pack_reader) (hb : r0.bad = false) (hs : r0.s.size ≤ bound) (m : Nat) (hm : N < m) :
    ∃ xs s b n, L m ([], r0.s, r0.bad, (N : Int)) = some (xs, s, b, n) ∧ Out (pmany p N (bytesL r0.s)) xs ⟨s, b⟩ ∧ s.size ≤ r0.s.size ∧ xs.length ≤ N := by
  have := rounds (L := L) (fun q => ∃ k : Nat, q.2.2.2 = ((N - k : Nat) : Int) ∧ k ≤ N ∧ q.1.length = k ∧ q.2.1.size ≤ r0.s.size ∧ ((q.2.2.1 = false ∧ pmany p k (bytesL r0.s) = some (q.1, bytesL q.2.1)) ∨ (q.2.2.1 = true ∧ pmany p k (bytesL r0.s) = none))) (fun q => q.2.2.2.toNat) (fun q => Out (pmany p N (bytesL r0.s)) q.1 ⟨q.2.1, q.2.2.1⟩ ∧ q.2.1.size ≤ r0.s.size ∧ q.1.length ≤ N) (fun q m hI => ?_) m ([], r0.s, r0.bad, (N : Int)) ⟨0, by simp, by omega, rfl, Nat.le_refl _, .inl ⟨hb, rfl⟩⟩ (by simp only [Int.toNat_natCast]; omega)
  · obtain ⟨⟨xs, s, b, n⟩, h1, h2, h3, h4⟩ := this
    exact ⟨xs, s, b, n, h1, h2, h3, h4⟩
  obtain ⟨xs, s, b, n'⟩ := q
  obtain ⟨k, hn', hk, hx, hsz, hcase⟩ := hI
  simp only at hn' hx hsz hcase
  subst hn'
  rw [hL]
  rcases hcase with ⟨rfl, hp⟩ | ⟨rfl, hp⟩
  · by_cases hlt : k < N
    · obtain ⟨v, r', h1, h2, h3⟩ := hf ⟨s, false⟩ rfl (by simp only; omega)
      rw [if_pos (by omega), if_pos (by decide), h1, Option.bind_some, if_pos (by rw [List.length_singleton]; omega), wr (by omega) (by omega)]
      refine .inr ⟨(xs ++ [v], r'.s, r'.bad, ((N - k : Nat) : Int) - 1), ⟨k + 1, by simp only; omega, by omega, by simp [hx], by simp only at h3 ⊢; omega, ?_⟩, by simp only; omega, rfl⟩
      have hs := pmany_succ p k (bytesL r0.s)
      rw [hp, Option.bind_some] at hs
      simp only at h2 hs ⊢
      cases ho : p (bytesL s) with
      | none =>
        rw [ho] at h2 hs
        exact .inr ⟨h2, by rw [hs]; rfl⟩
      | some a =>
        rw [ho] at h2 hs
        obtain ⟨q1, q2, q3⟩ := h2
        exact .inl ⟨q2, by rw [hs, q3, q1]; rfl⟩
    · have : k = N := by omega
      subst this
      rw [if_neg (by omega)]
      refine .inl ⟨_, rfl, ?_, hsz, by simp only; omega⟩
      simp only [hp]
      exact ⟨rfl, rfl, rfl⟩
  · refine .inl ⟨(xs, s, true, ((N - k : Nat) : Int)), by split <;> rfl, ?_, hsz, by simp only; omega⟩
    simp only [pmany_none hp hk]
    exact rfl
theorem many_bad {T : Type} (L : Nat → (List T × ByteArray × Bool × Int) → Option (List T × ByteArray × Bool × Int)) (f : Pack_reader → Option (T × Pack_reader))
    (hL : ∀ m xs s b n, L (m + 1) (xs, s, b, n) = if 0 < n then if (!b) = true then (f (⟨s, b⟩ : Pack_reader)).bind fun r_12 => if (xs.length + ([r_12.1] : List T).length) * 16 ≤ 140737488355328 then L m (xs ++ ([r_12.1] : List T), r_12.2.s, r_12.2.bad, IntKind.wrap .i64 (n - 1)) else none else some (xs, s, b, n) else some (xs, s, b, n))
    (m : Nat) (s : ByteArray) (n : Int) : L (m + 1) ([], s, true, n) = some ([], s, true, n) := by
  rw [hL]; split <;> rfl

/-- The loop of 'as', whatever its type. -/
theorem as_loop {T : Type} [Inhabited T] (all : List T) (L : Nat → (List T × Int) → Option (List T × Int)) (sz : Nat)
    (hL : ∀ m xs t, L (m + 1) (xs, t) = if t < (all.length : Int) then if 0 ≤ t then if (xs.length + ([rd all t] : List T).length) * sz ≤ 140737488355328 then L m (xs ++ ([rd all t] : List T), IntKind.wrap .i64 (t + 1)) else none else none else some (xs, t))
    (hsz : (all.length + 1) * sz ≤ 140737488355328) (hl : all.length ≤ 9223372036854775000) (m : Nat) (hm : all.length < m) : ∃ t, L m ([], 0) = some (all, t) := by
  have := rounds (L := L) (fun s => ∃ t : Nat, s.2 = t ∧ t ≤ all.length ∧ s.1 = all.take t) (fun s => all.length - s.2.toNat) (fun r => r.1 = all) (fun s m hI => ?_) m ([], 0) ⟨0, rfl, by omega, by simp⟩ (by simp only [Int.toNat_zero]; omega)
  · obtain ⟨⟨xs, t⟩, h1, h2⟩ := this
    exact ⟨t, by rw [h1]; simp only at h2; rw [h2]⟩
  obtain ⟨xs, t'⟩ := s
  obtain ⟨t, rfl, ht, hx⟩ := hI
  simp only at hx
  rw [hL]
  by_cases hlt : (t : Int) < all.length
  · have hlt' : t < all.length := by omega
    have e : all.take (t + 1) = all.take t ++ [rd all (t : Int)] := by
      rw [List.take_add_one, rd_nat]
      simp [List.getD_eq_getElem?_getD, hlt']
    have hb : (xs.length + ([rd all (t : Int)] : List T).length) * sz ≤ 140737488355328 := by
      refine Nat.le_trans (Nat.mul_le_mul_right _ ?_) hsz
      rw [hx, List.length_take, List.length_singleton]; omega
    rw [if_pos hlt, if_pos (Int.natCast_nonneg t), if_pos hb, wr (a := (t : Int) + 1) (by omega) (by omega)]
    exact .inr ⟨(_, (t : Int) + 1), ⟨t + 1, by simp, by omega, by simp only; rw [hx, e]⟩, by simp only; omega, rfl⟩
  · have : t = all.length := by omega
    subst this
    rw [if_neg hlt]
    exact .inl ⟨_, rfl, by simpa using hx⟩
end Go.Proofs.Ytokccimmgilciaa
