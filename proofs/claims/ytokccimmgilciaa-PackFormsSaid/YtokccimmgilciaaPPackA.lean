/-
  Numbers as bytes, a proof as bytes, in plain Lean; what the program's writer and the reference's Put come to. Own work; no claim stands here.
-/
import Derived.Test.YtokccimmgilciaaPA
import Derived.Test.YtokccimmgilciaaFF
namespace Go.Proofs.Ytokccimmgilciaa
open S
set_option linter.unusedVariables false
set_option linter.unusedSimpArgs false
set_option maxRecDepth 100000

def B1 (x : Int) : List Int := [x]
def B2 (x : Int) : List Int := [x / 256, x % 256]
def B4 (x : Int) : List Int := [x / 16777216, x / 65536 % 256, x / 256 % 256, x % 256]
/-- Does a number fit so many bytes? -/
def F1 (x : Int) : Prop := 0 ≤ x ∧ x < 256
def F2 (x : Int) : Prop := 0 ≤ x ∧ x < 65536
def F4 (x : Int) : Prop := 0 ≤ x ∧ x < 4294967296
instance (x : Int) : Decidable (F1 x) := by unfold F1; infer_instance
instance (x : Int) : Decidable (F2 x) := by unfold F2; infer_instance
instance (x : Int) : Decidable (F4 x) := by unfold F4; infer_instance

theorem ishr_i64 (x : Int) (j : Nat) (hj : j ≤ 64) : ishr .i64 x (j : Int) = x.fdiv (2 ^ j) := by
  unfold ishr
  rw [Int.toNat_natCast, show IntKind.i64.bits = 64 from rfl, Nat.min_eq_left hj]
theorem ishr_u64 (x : Int) (j : Nat) (hj : j ≤ 64) : ishr .u64 x (j : Int) = x.fdiv (2 ^ j) := by
  unfold ishr
  rw [Int.toNat_natCast, show IntKind.u64.bits = 64 from rfl, Nat.min_eq_left hj]
theorem w8 (x : Int) : IntKind.wrap .u8 x = x % 256 := IntKind.wrap_u8 x
theorem fd (x : Int) (d : Int) (hd : 0 ≤ d) : x.fdiv d = x / d := Int.fdiv_eq_ediv_of_nonneg x hd

/-! ### The program's num -/
theorem num_head (K : Nat) (w : Pack_writer) (x : Int) (hx : x ≤ 9223372036854775807) (s : Nat) (hs : s ≤ 4) :
    pack_writer_num K w x (s : Int) = if 0 ≤ x ∧ x < 256 ^ s then (pack_writer_num.l0 K x K (w.out_, (s : Int) - 1)).bind fun p => some ⟨p.1, w.bad⟩ else some ⟨w.out_, true⟩ := by
  unfold pack_writer_num
  have w1 : IntKind.wrap .i64 (8 * (s : Int)) = ((8 * s : Nat) : Int) := by rw [wr (by omega) (by omega)]; simp
  have w2 : IntKind.wrap .i64 ((s : Int) - 1) = (s : Int) - 1 := wr (by omega) (by omega)
  by_cases h0 : x < 0
  · rw [if_pos h0, if_neg (by omega)]
  · rw [if_neg h0, w1, w2, if_pos (Int.natCast_nonneg _), ishr_u64 _ _ (by omega), wu (a := x) (by omega) (by omega), fd _ _ (by exact_mod_cast Nat.zero_le _)]
    have hp : (2 : Int) ^ (8 * s) = 256 ^ s := by rw [Int.pow_mul]; rfl
    rw [hp]
    have hpos : (0 : Int) < 256 ^ s := by have := Nat.pow_pos (n := s) (show 0 < 256 by decide); exact_mod_cast this
    by_cases hlt : x < 256 ^ s
    · rw [Int.ediv_eq_zero_of_lt (by omega) hlt, if_neg (by simp), if_pos ⟨by omega, hlt⟩]
    · have : x / 256 ^ s ≠ 0 := by
        have := Int.le_ediv_of_mul_le hpos (by omega : 1 * (256 : Int) ^ s ≤ x)
        omega
      rw [if_pos this, if_neg (fun h => hlt h.2)]

theorem num_step (K m : Nat) (x : Int) (xs : List Int) (i : Nat) (hi : i ≤ 3) (hl : xs.length + 1 ≤ 140737488355328) : pack_writer_num.l0 K x (m + 1) (xs, (i : Int)) = pack_writer_num.l0 K x m (xs ++ [x / 256 ^ i % 256], (i : Int) - 1) := by
  have w1 : IntKind.wrap .i64 (8 * (i : Int)) = ((8 * i : Nat) : Int) := by rw [wr (by omega) (by omega)]; simp
  have w2 : IntKind.wrap .i64 ((i : Int) - 1) = (i : Int) - 1 := wr (by omega) (by omega)
  simp only [pack_writer_num.l0, w1, w2]
  rw [if_pos (Int.natCast_nonneg i), if_pos (Int.natCast_nonneg _), if_pos (by simp only [List.length_singleton]; omega), ishr_i64 _ _ (by omega), w8, fd _ _ (by exact_mod_cast Nat.zero_le _)]
  have hp : (2 : Int) ^ (8 * i) = 256 ^ i := by rw [Int.pow_mul]; rfl
  rw [hp]
theorem num_end (K m : Nat) (x : Int) (xs : List Int) : pack_writer_num.l0 K x (m + 1) (xs, -1) = some (xs, -1) := by
  simp only [pack_writer_num.l0]; rfl

theorem num1 (K : Nat) (hK : 5 ≤ K) (w : Pack_writer) (x : Int) (hx : x ≤ 9223372036854775807) (hl : w.out_.length + 4 ≤ 140737488355328) : pack_writer_num K w x 1 = some (if F1 x then ⟨w.out_ ++ B1 x, w.bad⟩ else ⟨w.out_, true⟩) := by
  obtain ⟨m, rfl⟩ : ∃ m, K = m + 5 := ⟨K - 5, by omega⟩
  have h := num_head (m + 5) w x hx 1 (by omega)
  rw [show (256 : Int) ^ 1 = 256 from rfl] at h
  have e : ((1 : Nat) : Int) = 1 := rfl
  rw [e] at h
  rw [h]
  by_cases hf : F1 x
  · rw [if_pos (show 0 ≤ x ∧ x < 256 from hf), if_pos hf]
    have s0 := num_step (m + 5) (m + 4) x w.out_ 0 (by omega) (by omega)
    rw [show ((1 : Int) - 1) = ((0 : Nat) : Int) from rfl, s0]
    rw [show ((0 : Nat) : Int) - 1 = -1 from rfl, num_end]
    obtain ⟨h1, h2⟩ := hf
    have e0 : x / 256 ^ 0 % 256 = x := by rw [show (256 : Int) ^ 0 = 1 from rfl]; omega
    simp only [e0, B1, Option.bind_some]
  · rw [if_neg (show ¬ (0 ≤ x ∧ x < 256) from hf), if_neg hf]

theorem num2 (K : Nat) (hK : 5 ≤ K) (w : Pack_writer) (x : Int) (hx : x ≤ 9223372036854775807) (hl : w.out_.length + 4 ≤ 140737488355328) : pack_writer_num K w x 2 = some (if F2 x then ⟨w.out_ ++ B2 x, w.bad⟩ else ⟨w.out_, true⟩) := by
  obtain ⟨m, rfl⟩ : ∃ m, K = m + 5 := ⟨K - 5, by omega⟩
  have h := num_head (m + 5) w x hx 2 (by omega)
  rw [show (256 : Int) ^ 2 = 65536 from rfl] at h
  have e : ((2 : Nat) : Int) = 2 := rfl
  rw [e] at h
  rw [h]
  by_cases hf : F2 x
  · rw [if_pos (show 0 ≤ x ∧ x < 65536 from hf), if_pos hf]
    have s1 := num_step (m + 5) (m + 4) x w.out_ 1 (by omega) (by omega)
    have s0 := num_step (m + 5) (m + 3) x (w.out_ ++ [x / 256 ^ 1 % 256]) 0 (by omega) (by simp; omega)
    rw [show ((2 : Int) - 1) = ((1 : Nat) : Int) from rfl, s1]
    rw [show ((1 : Nat) : Int) - 1 = ((0 : Nat) : Int) from rfl, s0]
    rw [show ((0 : Nat) : Int) - 1 = -1 from rfl, num_end]
    obtain ⟨h1, h2⟩ := hf
    have e1 : x / 256 ^ 1 % 256 = x / 256 := by rw [show (256 : Int) ^ 1 = 256 from rfl]; omega
    have e0 : x / 256 ^ 0 % 256 = x % 256 := by rw [show (256 : Int) ^ 0 = 1 from rfl]; omega
    simp only [e1, e0, B2, Option.bind_some, List.append_assoc, List.cons_append, List.nil_append]
  · rw [if_neg (show ¬ (0 ≤ x ∧ x < 65536) from hf), if_neg hf]

theorem num4 (K : Nat) (hK : 5 ≤ K) (w : Pack_writer) (x : Int) (hx : x ≤ 9223372036854775807) (hl : w.out_.length + 4 ≤ 140737488355328) : pack_writer_num K w x 4 = some (if F4 x then ⟨w.out_ ++ B4 x, w.bad⟩ else ⟨w.out_, true⟩) := by
  obtain ⟨m, rfl⟩ : ∃ m, K = m + 5 := ⟨K - 5, by omega⟩
  have h := num_head (m + 5) w x hx 4 (by omega)
  rw [show (256 : Int) ^ 4 = 4294967296 from rfl] at h
  have e : ((4 : Nat) : Int) = 4 := rfl
  rw [e] at h
  rw [h]
  by_cases hf : F4 x
  · rw [if_pos (show 0 ≤ x ∧ x < 4294967296 from hf), if_pos hf]
    have s3 := num_step (m + 5) (m + 4) x w.out_ 3 (by omega) (by omega)
    have s2 := num_step (m + 5) (m + 3) x (w.out_ ++ [x / 256 ^ 3 % 256]) 2 (by omega) (by simp; omega)
    have s1 := num_step (m + 5) (m + 2) x ((w.out_ ++ [x / 256 ^ 3 % 256]) ++ [x / 256 ^ 2 % 256]) 1 (by omega) (by simp; omega)
    have s0 := num_step (m + 5) (m + 1) x (((w.out_ ++ [x / 256 ^ 3 % 256]) ++ [x / 256 ^ 2 % 256]) ++ [x / 256 ^ 1 % 256]) 0 (by omega) (by simp; omega)
    rw [show ((4 : Int) - 1) = ((3 : Nat) : Int) from rfl, s3]
    rw [show ((3 : Nat) : Int) - 1 = ((2 : Nat) : Int) from rfl, s2]
    rw [show ((2 : Nat) : Int) - 1 = ((1 : Nat) : Int) from rfl, s1]
    rw [show ((1 : Nat) : Int) - 1 = ((0 : Nat) : Int) from rfl, s0]
    rw [show ((0 : Nat) : Int) - 1 = -1 from rfl, num_end]
    obtain ⟨h1, h2⟩ := hf
    have e3 : x / 256 ^ 3 % 256 = x / 16777216 := by rw [show (256 : Int) ^ 3 = 16777216 from rfl]; omega
    have e2 : x / 256 ^ 2 % 256 = x / 65536 % 256 := by rw [show (256 : Int) ^ 2 = 65536 from rfl]
    have e1 : x / 256 ^ 1 % 256 = x / 256 % 256 := by rw [show (256 : Int) ^ 1 = 256 from rfl]
    have e0 : x / 256 ^ 0 % 256 = x % 256 := by rw [show (256 : Int) ^ 0 = 1 from rfl]; omega
    simp only [e3, e2, e1, e0, B4, Option.bind_some, List.append_assoc, List.cons_append, List.nil_append]
  · rw [if_neg (show ¬ (0 ≤ x ∧ x < 4294967296) from hf), if_neg hf]

/-! ### What a writer comes to -/
def Fs (p : Int × Int) : Prop := if p.2 = 1 then F1 p.1 else if p.2 = 2 then F2 p.1 else F4 p.1
def Bs (p : Int × Int) : List Int := if p.2 = 1 then B1 p.1 else if p.2 = 2 then B2 p.1 else B4 p.1
def Sz (p : Int × Int) : Prop := (p.2 = 1 ∨ p.2 = 2 ∨ p.2 = 4) ∧ p.1 ≤ 9223372036854775807
instance (p : Int × Int) : Decidable (Fs p) := by unfold Fs; infer_instance
theorem Bs_len (p : Int × Int) : (Bs p).length ≤ 4 := by unfold Bs; split <;> (try split) <;> simp [B1, B2, B4]

structure WR (w w' : Pack_writer) (bs : List Int) (ok : Prop) : Prop where
  good : w.bad = false → ok → w' = ⟨w.out_ ++ bs, false⟩
  bad : (w.bad = true ∨ ¬ ok) → w'.bad = true
  len : w'.out_.length ≤ w.out_.length + bs.length
theorem WR.refl (w : Pack_writer) : WR w w [] True := ⟨fun h _ => by cases w; simp at h; subst h; simp, fun h => h.elim id fun h => absurd trivial h, by simp⟩
theorem WR.trans {w w1 w2 : Pack_writer} {b1 b2 : List Int} {p q : Prop} (h1 : WR w w1 b1 p) (h2 : WR w1 w2 b2 q) : WR w w2 (b1 ++ b2) (p ∧ q) := by
  refine ⟨fun hb ⟨hp, hq⟩ => ?_, fun h => ?_, by have := h1.len; have := h2.len; rw [List.length_append]; omega⟩
  · have e := h1.good hb hp
    have := h2.good (by rw [e]) hq
    rw [this, e, List.append_assoc]
  · by_cases hw : w1.bad = true
    · exact h2.bad (.inl hw)
    · refine h2.bad (.inr fun hq => ?_)
      rcases h with h | h
      · exact hw (h1.bad (.inl h))
      · by_cases hp : p
        · exact h ⟨hp, hq⟩
        · exact hw (h1.bad (.inr hp))
theorem WR.cong {w w' : Pack_writer} {bs cs : List Int} {p q : Prop} (h : WR w w' bs p) (hb : bs = cs) (hp : p ↔ q) : WR w w' cs q := by
  subst hb
  exact ⟨fun a b => h.good a (hp.2 b), fun a => h.bad (a.imp id fun x y => x (hp.1 y)), h.len⟩

theorem num_spec (K : Nat) (hK : 5 ≤ K) (w : Pack_writer) (p : Int × Int) (hp : Sz p) (hl : w.out_.length + 4 ≤ 140737488355328) : ∃ w', pack_writer_num K w p.1 p.2 = some w' ∧ WR w w' (Bs p) (Fs p) := by
  obtain ⟨x, s⟩ := p
  obtain ⟨hs, hx⟩ := hp
  have key : ∃ bs : List Int, ∃ ok : Prop, ∃ _ : Decidable ok, bs = Bs (x, s) ∧ (ok ↔ Fs (x, s)) ∧ pack_writer_num K w x s = some (if ok then ⟨w.out_ ++ bs, w.bad⟩ else ⟨w.out_, true⟩) := by
    rcases hs with hs | hs | hs
    · simp only at hs; subst hs; exact ⟨_, _, inferInstance, rfl, Iff.rfl, num1 K hK w x hx hl⟩
    · simp only at hs; subst hs; exact ⟨_, _, inferInstance, rfl, Iff.rfl, num2 K hK w x hx hl⟩
    · simp only at hs; subst hs; exact ⟨_, _, inferInstance, rfl, Iff.rfl, num4 K hK w x hx hl⟩
  obtain ⟨bs, ok, hd, rfl, hok, h⟩ := key
  refine ⟨_, h, ?_⟩
  by_cases ho : ok
  · rw [if_pos ho]
    exact ⟨fun hb _ => by rw [hb], fun h => h.elim id fun h => absurd (hok.1 ho) h, by simp⟩
  · rw [if_neg ho]
    exact ⟨fun _ hf => absurd (hok.2 hf) ho, fun _ => rfl, by simp⟩

theorem nums_spec (K : Nat) (hK : 5 ≤ K) (w : Pack_writer) (ps : List (Int × Int)) (hps : ∀ p ∈ ps, Sz p) (hK' : ps.length < K) (hk : ps.length ≤ 100) (hl : w.out_.length + 4 * ps.length + 4 ≤ 140737488355328) :
    ∃ w', pack_writer_nums K w ps = some w' ∧ WR w w' ((ps.map Bs).flatten) (∀ p ∈ ps, Fs p) := by
  have := rounds (L := pack_writer_nums.l0 K ps) (fun s => ∃ t : Nat, s.2.2 = t ∧ t ≤ ps.length ∧ s.1.length ≤ w.out_.length + 4 * t ∧ WR w ⟨s.1, s.2.1⟩ (((ps.take t).map Bs).flatten) (∀ p ∈ ps.take t, Fs p)) (fun s => ps.length - s.2.2.toNat) (fun r => WR w ⟨r.1, r.2.1⟩ ((ps.map Bs).flatten) (∀ p ∈ ps, Fs p)) (fun s m hI => ?_) K (w.out_, w.bad, 0) ⟨0, rfl, by omega, by simp, (WR.refl w).cong (by simp) (by simp)⟩ (by simp only [Int.toNat_zero]; omega)
  · obtain ⟨⟨xs, c, t⟩, h1, h2⟩ := this
    exact ⟨⟨xs, c⟩, by unfold pack_writer_nums; rw [h1]; rfl, h2⟩
  obtain ⟨xs, c, t'⟩ := s
  obtain ⟨t, rfl, ht, hlen, hw⟩ := hI
  simp only at hlen hw
  simp only [pack_writer_nums.l0]
  by_cases hlt : (t : Int) < ps.length
  · have hlt' : t < ps.length := by omega
    obtain ⟨w', h1, h2⟩ := num_spec K hK ⟨xs, c⟩ (rd ps t) (hps _ (rd_mem (Int.natCast_nonneg t) hlt)) (by simp only; omega)
    rw [if_pos hlt, if_pos (Int.natCast_nonneg t), h1, Option.bind_some, wr (a := (t : Int) + 1) (by omega) (by omega)]
    have e : ps.take (t + 1) = ps.take t ++ [rd ps t] := by
      rw [List.take_add_one, rd_nat]
      simp [List.getD_eq_getElem?_getD, hlt']
    refine .inr ⟨(w'.out_, w'.bad, (t : Int) + 1), ⟨t + 1, by simp, by omega, ?_, ?_⟩, by simp only; omega, rfl⟩
    · have := h2.len
      have := Bs_len (rd ps t)
      simp only at *
      omega
    · refine (hw.trans h2).cong ?_ ?_
      · rw [e]; simp
      · rw [e]; simp only [List.mem_append, List.mem_singleton]
        exact ⟨fun ⟨a, b⟩ p hp => hp.elim (a p) fun h => h ▸ b, fun h => ⟨fun p hp => h p (.inl hp), h _ (.inr rfl)⟩⟩
  · have : t = ps.length := by omega
    subst this
    rw [if_neg hlt]
    exact .inl ⟨_, rfl, by simpa using hw⟩

/-! ### A proof's bytes -/
def kidsB (ks : List Int) : List Int := (ks.map B4).flatten
def pickB (p : Pick) : List Int := B2 p.At ++ (B1 p.Conj ++ (B1 (p.Kids.length : Int) ++ kidsB p.Kids))
def picksB (ps : List Pick) : List Int := (ps.map pickB).flatten
def headB (x : Node) : List Int := B1 (if x.Sign = true then 1 else 0) ++ (B1 x.Kind ++ (B2 x.Name ++ (B2 x.Place.Rule ++ (B1 x.Place.Conj ++ (B1 x.Place.Pos ++ (B1 x.I ++ (B1 x.J ++ (B4 x.Rank ++ B2 (x.Picks.length : Int)))))))))
def nodeB (x : Node) : List Int := headB x ++ picksB x.Picks
def nodesB (xs : List Node) : List Int := (xs.map nodeB).flatten
def shapeOk (x : Node) : Prop := (x.Kind = 0 ∧ x.Place = ⟨0, 0, 0⟩) ∨ (x.Kind = 1 ∧ x.Name = 0)
def pickOk (p : Pick) : Prop := F2 p.At ∧ F1 p.Conj ∧ F1 (p.Kids.length : Int) ∧ ∀ k ∈ p.Kids, F4 k
def headOk (x : Node) : Prop := F1 x.Kind ∧ F2 x.Name ∧ F2 x.Place.Rule ∧ F1 x.Place.Conj ∧ F1 x.Place.Pos ∧ F1 x.I ∧ F1 x.J ∧ F4 x.Rank ∧ F2 (x.Picks.length : Int)
def nodeOk (x : Node) : Prop := shapeOk x ∧ headOk x ∧ ∀ p ∈ x.Picks, pickOk p
theorem kidsB_len (ks : List Int) : (kidsB ks).length = 4 * ks.length := by
  induction ks with
  | nil => rfl
  | cons k ks ih => simp only [kidsB, List.map_cons, List.flatten_cons, List.length_append, List.length_cons] at ih ⊢; rw [ih]; simp [B4]; omega
theorem pickB_len (p : Pick) : (pickB p).length = 4 + 4 * p.Kids.length := by
  simp only [pickB, List.length_append, kidsB_len]; simp [B1, B2]; omega
theorem headB_len (x : Node) : (headB x).length = 16 := by simp [headB, B1, B2, B4]
/-- Numbers that a program's memory holds. -/
def Small (n : Int) : Prop := n ≤ 9223372036854775807
def pickSm (p : Pick) : Prop := Small p.At ∧ Small p.Conj ∧ ∀ k ∈ p.Kids, Small k
def nodeSm (x : Node) : Prop := Small x.Kind ∧ Small x.Name ∧ Small x.Place.Rule ∧ Small x.Place.Conj ∧ Small x.Place.Pos ∧ Small x.I ∧ Small x.J ∧ Small x.Rank ∧ ∀ p ∈ x.Picks, pickSm p

theorem shape_spec (K : Nat) (x : Node) : ∃ b, pack_shape K x = some b ∧ (b = true ↔ shapeOk x) := by
  unfold pack_shape shapeOk
  by_cases h0 : x.Kind = 0
  · rw [if_pos h0]
    exact ⟨_, rfl, by simp [h0]⟩
  · rw [if_neg h0]
    by_cases h1 : x.Kind = 1
    · rw [if_pos h1]; exact ⟨_, rfl, by simp [h1]⟩
    · rw [if_neg h1]; exact ⟨_, rfl, by simp [h0, h1]⟩

theorem kids_spec (K : Nat) (hK : 5 ≤ K) (x : Node) (t : Int) (ks : List Int) (hks : (rd x.Picks t).Kids = ks) (hsm : ∀ k ∈ ks, Small k) (w : Pack_writer) (hl : w.out_.length + 4 * ks.length + 8 ≤ 140737488355328) (m : Nat) (hm : ks.length < m) :
    ∃ r, pack_writer_node.l1 K x t m (w.out_, w.bad, 0) = some r ∧ WR w ⟨r.1, r.2.1⟩ (kidsB ks) (∀ k ∈ ks, F4 k) := by
  refine rounds (L := pack_writer_node.l1 K x t) (fun s => ∃ i : Nat, s.2.2 = i ∧ i ≤ ks.length ∧ WR w ⟨s.1, s.2.1⟩ (kidsB (ks.take i)) (∀ k ∈ ks.take i, F4 k)) (fun s => ks.length - s.2.2.toNat) (fun r => WR w ⟨r.1, r.2.1⟩ (kidsB ks) (∀ k ∈ ks, F4 k)) (fun s m hI => ?_) m (w.out_, w.bad, 0) ⟨0, rfl, by omega, (WR.refl w).cong (by simp [kidsB]) (by simp)⟩ (by simp only [Int.toNat_zero]; omega)
  obtain ⟨xs, c, i'⟩ := s
  obtain ⟨i, rfl, hi, hw⟩ := hI
  simp only at hw
  simp only [pack_writer_node.l1, hks]
  by_cases hlt : (i : Int) < ks.length
  · have hlt' : i < ks.length := by omega
    have hlen := hw.len
    rw [kidsB_len, List.length_take] at hlen
    obtain ⟨w', h1, h2⟩ := num_spec K hK ⟨xs, c⟩ (rd ks i, 4) ⟨.inr (.inr rfl), hsm _ (rd_mem (Int.natCast_nonneg i) hlt)⟩ (by simp only at hlen ⊢; omega)
    simp only at h1
    rw [if_pos hlt, if_pos (Int.natCast_nonneg i), h1, Option.bind_some, wr (a := (i : Int) + 1) (by omega) (by omega)]
    have e : ks.take (i + 1) = ks.take i ++ [rd ks i] := by
      rw [List.take_add_one, rd_nat]
      simp [List.getD_eq_getElem?_getD, hlt']
    refine .inr ⟨(w'.out_, w'.bad, (i : Int) + 1), ⟨i + 1, by simp, by omega, (hw.trans h2).cong ?_ ?_⟩, by simp only; omega, rfl⟩
    · rw [e]; simp [kidsB, Bs]
    · rw [e]; simp only [List.mem_append, List.mem_singleton]
      exact ⟨fun ⟨a, b⟩ p hp => hp.elim (a p) fun h => h ▸ b, fun h => ⟨fun p hp => h p (.inl hp), h _ (.inr rfl)⟩⟩
  · have : i = ks.length := by omega
    subst this
    rw [if_neg hlt]
    exact .inl ⟨_, rfl, by simpa using hw⟩

def sumLen (ps : List Pick) : Nat := (picksB ps).length
theorem picksB_take {ps : List Pick} {i : Nat} (h : i < ps.length) : picksB (ps.take (i + 1)) = picksB (ps.take i) ++ pickB (rd ps (i : Int)) := by
  have e : ps.take (i + 1) = ps.take i ++ [rd ps (i : Int)] := by
    rw [List.take_add_one, rd_nat]
    simp [List.getD_eq_getElem?_getD, h]
  rw [e]; simp [picksB]
theorem picksB_mono (ps : List Pick) (i : Nat) : (picksB (ps.take i)).length ≤ (picksB ps).length := by
  have : picksB ps = picksB (ps.take i) ++ picksB (ps.drop i) := by
    unfold picksB
    rw [← List.flatten_append, ← List.map_append, List.take_append_drop]
  rw [this, List.length_append]; omega

theorem picks_spec (K : Nat) (hK : 5 ≤ K) (x : Node) (hsm : ∀ p ∈ x.Picks, pickSm p) (hp64 : x.Picks.length ≤ 9223372036854775000) (hk64 : ∀ p ∈ x.Picks, p.Kids.length < K ∧ p.Kids.length ≤ 9223372036854775000) (w : Pack_writer) (hl : w.out_.length + (picksB x.Picks).length + 32 ≤ 140737488355328) (m : Nat) (hm : x.Picks.length < m) :
    ∃ r, pack_writer_node.l0 K x m (w.out_, w.bad, 0) = some r ∧ WR w ⟨r.1, r.2.1⟩ (picksB x.Picks) (∀ p ∈ x.Picks, pickOk p) := by
  refine rounds (L := pack_writer_node.l0 K x) (fun s => ∃ i : Nat, s.2.2 = i ∧ i ≤ x.Picks.length ∧ WR w ⟨s.1, s.2.1⟩ (picksB (x.Picks.take i)) (∀ p ∈ x.Picks.take i, pickOk p)) (fun s => x.Picks.length - s.2.2.toNat) (fun r => WR w ⟨r.1, r.2.1⟩ (picksB x.Picks) (∀ p ∈ x.Picks, pickOk p)) (fun s m hI => ?_) m (w.out_, w.bad, 0) ⟨0, rfl, by omega, (WR.refl w).cong (by simp [picksB]) (by simp)⟩ (by simp only [Int.toNat_zero]; omega)
  obtain ⟨xs, c, i'⟩ := s
  obtain ⟨i, rfl, hi, hw⟩ := hI
  simp only at hw
  simp only [pack_writer_node.l0]
  by_cases hlt : (i : Int) < x.Picks.length
  · have hlt' : i < x.Picks.length := by omega
    have hpm := rd_mem (Int.natCast_nonneg i) hlt
    obtain ⟨s1, s2, s3⟩ := hsm _ hpm
    obtain ⟨k1, k2⟩ := hk64 _ hpm
    have htk := picksB_take hlt'
    have hmono := picksB_mono x.Picks (i + 1)
    rw [htk, List.length_append, pickB_len] at hmono
    have hlen := hw.len
    simp only at hlen
    obtain ⟨w1, h1, h2⟩ := nums_spec K hK ⟨xs, c⟩ [((rd x.Picks i).At, 2), ((rd x.Picks i).Conj, 1), ((((rd x.Picks i).Kids).length : Int), 1)] (by
      intro p hp
      simp only [List.mem_cons, List.not_mem_nil, or_false] at hp
      rcases hp with rfl | rfl | rfl
      · exact ⟨.inr (.inl rfl), s1⟩
      · exact ⟨.inl rfl, s2⟩
      · exact ⟨.inl rfl, by simp only; omega⟩) (by simp; omega) (by simp) (by simp only [List.length_cons, List.length_nil]; omega)
    have hlen1 := h2.len
    simp only [List.map_cons, List.map_nil, List.flatten_cons, List.flatten_nil, List.length_append, List.length_nil, Bs, B1, B2] at hlen1
    simp at hlen1
    obtain ⟨r, h3, h4⟩ := kids_spec K hK x i (rd x.Picks i).Kids rfl s3 w1 (by omega) K k1
    rw [if_pos hlt, if_pos (Int.natCast_nonneg i), h1, Option.bind_some, h3, Option.bind_some, wr (a := (i : Int) + 1) (by omega) (by omega)]
    refine .inr ⟨(r.1, r.2.1, (i : Int) + 1), ⟨i + 1, by simp, by omega, ((hw.trans h2).trans h4).cong ?_ ?_⟩, by simp only; omega, rfl⟩
    · rw [htk]; simp [pickB, Bs]
    · have e : x.Picks.take (i + 1) = x.Picks.take i ++ [rd x.Picks (i : Int)] := by
        rw [List.take_add_one, rd_nat]
        simp [List.getD_eq_getElem?_getD, hlt']
      rw [e]
      simp only [List.mem_append, List.mem_cons, List.not_mem_nil, or_false]
      constructor
      · rintro ⟨⟨a, b⟩, d⟩ p (hp | rfl)
        · exact a p hp
        · exact ⟨b _ (.inl rfl), b _ (.inr (.inl rfl)), b _ (.inr (.inr rfl)), d⟩
      · intro h
        obtain ⟨q1, q2, q3, q4⟩ := h _ (.inr rfl)
        refine ⟨⟨fun p hp => h p (.inl hp), ?_⟩, q4⟩
        rintro p (rfl | rfl | rfl)
        · exact q1
        · exact q2
        · exact q3
  · have : i = x.Picks.length := by omega
    subst this
    rw [if_neg hlt]
    exact .inl ⟨_, rfl, by simpa using hw⟩

theorem node_spec (K : Nat) (hK : 20 ≤ K) (x : Node) (hsm : nodeSm x) (hp : x.Picks.length < K) (hp64 : x.Picks.length ≤ 9223372036854775000) (hk64 : ∀ p ∈ x.Picks, p.Kids.length < K ∧ p.Kids.length ≤ 9223372036854775000) (w : Pack_writer) (hl : w.out_.length + (nodeB x).length + 100 ≤ 140737488355328) :
    ∃ w', pack_writer_node K w x = some w' ∧ WR w w' (nodeB x) (nodeOk x) := by
  obtain ⟨m1, m2, m3, m4, m5, m6, m7, m8, m9⟩ := hsm
  obtain ⟨b, hb, hbi⟩ := shape_spec K x
  have hnl : (nodeB x).length = 16 + (picksB x.Picks).length := by rw [nodeB, List.length_append, headB_len]
  have h0 : ∃ c, (if w.bad = true then some true else (pack_shape K x).bind fun r => some (!r)) = some c ∧ WR w ⟨w.out_, c⟩ [] (shapeOk x) := by
    cases hw : w.bad with
    | true => exact ⟨true, by simp, fun h => by simp [hw] at h, fun _ => rfl, by simp⟩
    | false =>
      refine ⟨!b, by simp [hb], fun _ h => by simp [hbi.2 h], fun h => ?_, by simp⟩
      rcases h with h | h
      · rw [hw] at h; cases h
      · cases b with
        | true => exact absurd (hbi.1 rfl) h
        | false => rfl
  obtain ⟨c, hc, r0⟩ := h0
  have hbit : pack_bit K x.Sign = some (if x.Sign = true then 1 else 0) := by unfold pack_bit; split <;> rfl
  obtain ⟨w1, h1, r1⟩ := nums_spec K (by omega) ⟨w.out_, c⟩ [((if x.Sign = true then 1 else 0), 1), (x.Kind, 1), (x.Name, 2), (x.Place.Rule, 2), (x.Place.Conj, 1), (x.Place.Pos, 1)] (by
      intro p hp
      simp only [List.mem_cons, List.not_mem_nil, or_false] at hp
      rcases hp with rfl | rfl | rfl | rfl | rfl | rfl
      · exact ⟨.inl rfl, by simp only; split <;> omega⟩
      · exact ⟨.inl rfl, m1⟩
      · exact ⟨.inr (.inl rfl), m2⟩
      · exact ⟨.inr (.inl rfl), m3⟩
      · exact ⟨.inl rfl, m4⟩
      · exact ⟨.inl rfl, m5⟩) (by simp; omega) (by simp) (by simp only [List.length_cons, List.length_nil]; omega)
  have l1 := r1.len
  simp [Bs, B1, B2] at l1
  obtain ⟨w2, h2, r2⟩ := nums_spec K (by omega) w1 [(x.I, 1), (x.J, 1), (x.Rank, 4), ((x.Picks.length : Int), 2)] (by
      intro p hp
      simp only [List.mem_cons, List.not_mem_nil, or_false] at hp
      rcases hp with rfl | rfl | rfl | rfl
      · exact ⟨.inl rfl, m6⟩
      · exact ⟨.inl rfl, m7⟩
      · exact ⟨.inr (.inr rfl), m8⟩
      · exact ⟨.inr (.inl rfl), by simp only; omega⟩) (by simp; omega) (by simp) (by simp only [List.length_cons, List.length_nil]; omega)
  have l2 := r2.len
  simp [Bs, B1, B2, B4] at l2
  obtain ⟨r, h3, r3⟩ := picks_spec K (by omega) x m9 hp64 hk64 w2 (by omega) K hp
  unfold pack_writer_node
  rw [hc, Option.bind_some, hbit, Option.bind_some, h1, Option.bind_some, h2, Option.bind_some, h3, Option.bind_some]
  refine ⟨_, rfl, ((r0.trans r1).trans (r2.trans r3)).cong ?_ ?_⟩
  · simp [nodeB, headB, Bs]
  · have hs : Fs ((if x.Sign = true then 1 else 0), 1) := by show F1 _; split <;> exact ⟨by decide, by decide⟩
    unfold nodeOk headOk
    constructor
    · rintro ⟨⟨a, b⟩, d, e⟩
      exact ⟨a, ⟨b (x.Kind, 1) (by simp), b (x.Name, 2) (by simp), b (x.Place.Rule, 2) (by simp), b (x.Place.Conj, 1) (by simp), b (x.Place.Pos, 1) (by simp), d (x.I, 1) (by simp), d (x.J, 1) (by simp), d (x.Rank, 4) (by simp), d ((x.Picks.length : Int), 2) (by simp)⟩, e⟩
    · rintro ⟨a, ⟨b1, b2, b3, b4, b5, b6, b7, b8, b9⟩, e⟩
      refine ⟨⟨a, fun p hp => ?_⟩, fun p hp => ?_, e⟩
      · simp only [List.mem_cons, List.not_mem_nil, or_false] at hp
        rcases hp with rfl | rfl | rfl | rfl | rfl | rfl
        · exact hs
        · exact b1
        · exact b2
        · exact b3
        · exact b4
        · exact b5
      · simp only [List.mem_cons, List.not_mem_nil, or_false] at hp
        rcases hp with rfl | rfl | rfl | rfl
        · exact b6
        · exact b7
        · exact b8
        · exact b9
end Go.Proofs.Ytokccimmgilciaa
