/-
  The laws of chapter 18, in plain Lean: what they call; PackTurned. Own work; no claim stands here.
-/
import Derived.Test.YtokccimmgilciaaPPackH
namespace Go.Proofs.Ytokccimmgilciaa
open S
set_option linter.unusedVariables false
set_option linter.unusedSimpArgs false
set_option maxRecDepth 100000

theorem list_ext {T : Type} [Inhabited T] {a b : List T} (hl : a.length = b.length) : (∀ i : Nat, i < a.length → rd a (i : Int) = rd b (i : Int)) ↔ a = b := by
  constructor
  · intro h
    refine List.ext_getElem hl fun i h1 h2 => ?_
    have := h i h1
    simpa [rd_nat, List.getD_eq_getElem?_getD, h1, h2] using this
  · rintro rfl _ _; rfl

theorem sameInts (K : Nat) (a b : List Int) (hK : a.length < K) (hl : a.length ≤ 140737488355328) : ∃ r, templelaw0_SameInts K a b = some r ∧ (r = true ↔ a = b) := by
  unfold templelaw0_SameInts
  by_cases hle : a.length = b.length
  · obtain ⟨r, h1, h2, h3⟩ := all_loop a.length (templelaw0_SameInts.l0 K a b) false (fun i => rd a (i : Int) = rd b (i : Int)) (fun m i hi => by
      refine ⟨decide (rd a (i : Int) = rd b (i : Int)), by simp, ?_⟩
      simp only [templelaw0_SameInts.l0]
      rw [if_pos (by omega), if_pos (Int.natCast_nonneg i), if_pos (by omega), wr (a := (i : Int) + 1) (by omega) (by omega)]
      by_cases h : rd a (i : Int) = rd b (i : Int) <;> simp [h]) (fun m => by simp only [templelaw0_SameInts.l0]; rw [if_neg (by omega)]) K hK
    rw [list_ext hle] at h2 h3
    rw [if_neg (by omega), h1]
    by_cases h : a = b
    · rw [h2 h]; exact ⟨true, rfl, by simp [h]⟩
    · rw [h3 h]; exact ⟨false, rfl, by simp [h]⟩
  · rw [if_pos (by omega)]
    exact ⟨false, rfl, by simp; intro h; exact hle (by rw [h])⟩
theorem samePicks (K : Nat) (a b : List Pick) (hK : a.length < K) (hl : a.length ≤ 140737488355328) (hk : ∀ p ∈ a, p.Kids.length < K ∧ p.Kids.length ≤ 140737488355328) : ∃ r, templelaw0_SamePicks K a b = some r ∧ (r = true ↔ a = b) := by
  unfold templelaw0_SamePicks
  by_cases hle : a.length = b.length
  · obtain ⟨r, h1, h2, h3⟩ := all_loop a.length (templelaw0_SamePicks.l0 K a b) false (fun i => rd a (i : Int) = rd b (i : Int)) (fun m i hi => by
      obtain ⟨k1, k2⟩ := hk _ (rd_mem (Int.natCast_nonneg i) (by omega))
      obtain ⟨q, q1, q2⟩ := sameInts K (rd a (i : Int)).Kids (rd b (i : Int)).Kids k1 k2
      simp only [templelaw0_SamePicks.l0]
      rw [if_pos (by omega), if_pos (Int.natCast_nonneg i), if_pos (by omega), q1, Option.bind_some, wr (a := (i : Int) + 1) (by omega) (by omega)]
      have he : rd a (i : Int) = rd b (i : Int) ↔ (rd a (i : Int)).At = (rd b (i : Int)).At ∧ (rd a (i : Int)).Conj = (rd b (i : Int)).Conj ∧ (rd a (i : Int)).Kids = (rd b (i : Int)).Kids := by
        cases rd a (i : Int); cases rd b (i : Int); simp
      refine ⟨decide (rd a (i : Int) = rd b (i : Int)), by simp, ?_⟩
      by_cases c1 : (rd a (i : Int)).At = (rd b (i : Int)).At
      case neg => rw [if_pos c1, decide_eq_false (fun h => c1 (he.1 h).1)]; rfl
      rw [if_neg (by simp [c1])]
      by_cases c2 : (rd a (i : Int)).Conj = (rd b (i : Int)).Conj
      case neg => rw [if_pos c2, decide_eq_false (fun h => c2 (he.1 h).2.1)]; rfl
      rw [if_neg (by simp [c2])]
      cases q with
      | true => rw [if_neg (by decide), decide_eq_true (he.2 ⟨c1, c2, q2.1 rfl⟩), if_pos rfl]
      | false => rw [if_pos (by decide), decide_eq_false (fun h => by have := q2.2 (he.1 h).2.2; cases this)]; rfl) (fun m => by simp only [templelaw0_SamePicks.l0]; rw [if_neg (by omega)]) K hK
    rw [list_ext hle] at h2 h3
    rw [if_neg (by omega), h1]
    by_cases h : a = b
    · rw [h2 h]; exact ⟨true, rfl, by simp [h]⟩
    · rw [h3 h]; exact ⟨false, rfl, by simp [h]⟩
  · rw [if_pos (by omega)]
    exact ⟨false, rfl, by simp; intro h; exact hle (by rw [h])⟩
theorem sameNode (K : Nat) (a b : Node) (hK : a.Picks.length < K) (hl : a.Picks.length ≤ 140737488355328) (hk : ∀ p ∈ a.Picks, p.Kids.length < K ∧ p.Kids.length ≤ 140737488355328) : ∃ r, templelaw0_SameNode K a b = some r ∧ (r = true ↔ a = b) := by
  obtain ⟨q, q1, q2⟩ := samePicks K a.Picks b.Picks hK hl hk
  unfold templelaw0_SameNode
  have he : a = b ↔ a.Sign = b.Sign ∧ a.Kind = b.Kind ∧ a.Name = b.Name ∧ a.Place = b.Place ∧ a.I = b.I ∧ a.J = b.J ∧ a.Rank = b.Rank ∧ a.Picks = b.Picks := by
    cases a; cases b; simp
  by_cases c1 : a.Sign = b.Sign
  case neg => rw [if_neg c1]; exact ⟨false, rfl, by rw [he]; simp [c1]⟩
  rw [if_pos c1]
  by_cases c2 : a.Kind = b.Kind
  case neg => rw [if_neg c2]; exact ⟨false, rfl, by rw [he]; simp [c2]⟩
  rw [if_pos c2]
  by_cases c3 : a.Name = b.Name
  case neg => rw [if_neg c3]; exact ⟨false, rfl, by rw [he]; simp [c3]⟩
  rw [if_pos c3]
  by_cases c4 : a.Place = b.Place
  case neg => rw [if_neg c4]; exact ⟨false, rfl, by rw [he]; simp [c4]⟩
  rw [if_pos c4]
  by_cases c5 : a.I = b.I
  case neg => rw [if_neg c5]; exact ⟨false, rfl, by rw [he]; simp [c5]⟩
  rw [if_pos c5]
  by_cases c6 : a.J = b.J
  case neg => rw [if_neg c6]; exact ⟨false, rfl, by rw [he]; simp [c6]⟩
  rw [if_pos c6]
  by_cases c7 : a.Rank = b.Rank
  case neg => rw [if_neg c7]; exact ⟨false, rfl, by rw [he]; simp [c7]⟩
  rw [if_pos c7, q1]
  exact ⟨q, rfl, by rw [he, q2]; simp [c1, c2, c3, c4, c5, c6, c7]⟩
theorem sameCert (K : Nat) (a b : Cert) (h : PR K a) : templelaw0_SameCert K a b = some (decide (a = b)) := by
  have hl := h.n.2
  unfold templelaw0_SameCert
  have he : a = b ↔ a.Root = b.Root ∧ a.Nodes = b.Nodes := by cases a; cases b; simp
  by_cases c1 : a.Root = b.Root
  case neg => rw [if_pos c1, decide_eq_false (fun h => c1 (he.1 h).1)]
  rw [if_neg (by simp [c1])]
  by_cases hle : a.Nodes.length = b.Nodes.length
  · obtain ⟨r, h1, h2, h3⟩ := all_loop a.Nodes.length (templelaw0_SameCert.l0 K a b) false (fun i => rd a.Nodes (i : Int) = rd b.Nodes (i : Int)) (fun m i hi => by
      have hm : rd a.Nodes (i : Int) ∈ a.Nodes := rd_mem (Int.natCast_nonneg i) (by omega)
      obtain ⟨q, q1, q2⟩ := sameNode K (rd a.Nodes (i : Int)) (rd b.Nodes (i : Int)) (h.p _ hm).1 (h.p _ hm).2 (h.k _ hm)
      refine ⟨q, q2, ?_⟩
      simp only [templelaw0_SameCert.l0]
      rw [if_pos (by omega), if_pos (Int.natCast_nonneg i), if_pos (by omega), q1, Option.bind_some, wr (a := (i : Int) + 1) (by omega) (by omega)]
      cases q <;> simp) (fun m => by simp only [templelaw0_SameCert.l0]; rw [if_neg (by omega)]) K h.n.1
    rw [list_ext hle] at h2 h3
    rw [if_neg (by omega), h1]
    by_cases hh : a.Nodes = b.Nodes
    · rw [h2 hh, decide_eq_true (he.2 ⟨c1, hh⟩)]; rfl
    · rw [h3 hh, decide_eq_false (fun h => hh (he.1 h).2)]; rfl
  · rw [if_pos (by omega), decide_eq_false]
    intro h; exact hle (by rw [h])

/-! ### What is read is small -/
theorem PR_ok {K : Nat} (hK : 70000 ≤ K) {c : Cert} (h : certOk c) (hn : c.Nodes.length ≤ 65536) : PR K c := by
  refine ⟨⟨by omega, by omega⟩, fun x hx => ?_, fun x hx p hp => ?_⟩
  · have := (h.2 x hx).2.1.2.2.2.2.2.2.2.2.2
    exact ⟨by omega, by omega⟩
  · have := ((h.2 x hx).2.2 p hp).2.2.1.2
    exact ⟨by omega, by omega⟩
theorem getR_cases {L : List Int} (hb : Byt L) : (∃ c, certOk c ∧ c.Nodes.length ≤ 65536 ∧ L = certB c ∧ getR L = (c, 0)) ∨ ((getR L).1 = ⟨0, []⟩ ∧ (getR L).2 ≠ 0) := by
  rcases getR_err L with h | h
  · left
    have : getR L = ((getR L).1, 0) := by rw [← h]
    obtain ⟨h1, h2, h3, _⟩ := getR_cert hb this
    exact ⟨_, h1, h2, h3, this⟩
  · exact .inr h
theorem PR_get {K : Nat} (hK : 70000 ≤ K) {L : List Int} (hb : Byt L) : PR K (getR L).1 := by
  rcases getR_cases hb with ⟨c, h1, h2, _, h4⟩ | ⟨h, _⟩
  · rw [h4]; exact PR_ok hK h1 h2
  · rw [h]; exact ⟨⟨by simp only [List.length_nil]; omega, by simp⟩, by simp, by simp⟩

/-! ### What every program answers that is one -/
def c0 : Cert := ⟨1, [⟨true, 1, 0, ⟨1, 2, 3⟩, 4, 5, 6, [⟨7, 8, [9]⟩]⟩, ⟨false, 0, 2, ⟨0, 0, 0⟩, 0, 0, 0, []⟩]⟩
theorem c0_ok : certOk c0 := by
  refine ⟨⟨by decide, by decide⟩, fun x hx => ?_⟩
  simp only [c0, List.mem_cons, List.not_mem_nil, or_false] at hx
  rcases hx with rfl | rfl
  · refine ⟨.inr ⟨rfl, rfl⟩, ⟨⟨by decide, by decide⟩, ⟨by decide, by decide⟩, ⟨by decide, by decide⟩, ⟨by decide, by decide⟩, ⟨by decide, by decide⟩, ⟨by decide, by decide⟩, ⟨by decide, by decide⟩, ⟨by decide, by decide⟩, ⟨by decide, by decide⟩⟩, fun p hp => ?_⟩
    simp only [List.mem_singleton] at hp
    subst hp
    exact ⟨⟨by decide, by decide⟩, ⟨by decide, by decide⟩, ⟨by decide, by decide⟩, by intro k hk; simp at hk; subst hk; exact ⟨by decide, by decide⟩⟩
  · exact ⟨.inl ⟨rfl, rfl⟩, ⟨⟨by decide, by decide⟩, ⟨by decide, by decide⟩, ⟨by decide, by decide⟩, ⟨by decide, by decide⟩, ⟨by decide, by decide⟩, ⟨by decide, by decide⟩, ⟨by decide, by decide⟩, ⟨by decide, by decide⟩, ⟨by decide, by decide⟩⟩, by simp⟩
theorem sm_of_ok {c : Cert} (h : certOk c) : certSm c := by
  refine ⟨by have := h.1.2; unfold Small; omega, fun x hx => ?_⟩
  obtain ⟨_, ⟨b1, b2, b3, b4, b5, b6, b7, b8, _⟩, hp⟩ := h.2 x hx
  unfold F1 at *; unfold F2 at *; unfold F4 at *
  refine ⟨by unfold Small; omega, by unfold Small; omega, by unfold Small; omega, by unfold Small; omega, by unfold Small; omega, by unfold Small; omega, by unfold Small; omega, by unfold Small; omega, fun p hpm => ?_⟩
  obtain ⟨a1, a2, _, a4⟩ := hp p hpm
  refine ⟨by have := a1.2; unfold Small; omega, by have := a2.2; unfold Small; omega, fun k hk => by have := (a4 k hk).2; unfold Small; omega⟩
theorem PB_ok {K : Nat} (hK : 70000 ≤ K) {c : Cert} (h : certOk c) (hn : c.Nodes.length ≤ 65536) : PB K c := by
  have hr := PR_ok hK h hn
  refine ⟨⟨hr.n.1, by have := hr.n.2; omega⟩, fun x hx => ⟨(hr.p x hx).1, by have := (hr.p x hx).2; omega⟩, fun x hx p hp => ⟨(hr.k x hx p hp).1, by have := (hr.k x hx p hp).2; omega⟩, fun x hx => ?_⟩
  rw [nodeB_len]
  have hpl := (h.2 x hx).2.1.2.2.2.2.2.2.2.2.2
  have key : ∀ ps : List Pick, (∀ p ∈ ps, pickOk p) → (picksB ps).length ≤ 1024 * ps.length := by
    intro ps
    induction ps with
    | nil => intro _; simp [picksB]
    | cons p ps ih =>
      intro hp
      have h1 := ih fun q hq => hp q (List.mem_cons_of_mem _ hq)
      have h2 := (hp p (List.mem_cons_self ..)).2.2.1.2
      have h3 := pickB_len p
      simp only [picksB, List.map_cons, List.flatten_cons, List.length_append, List.length_cons] at h1 ⊢
      omega
  have := key x.Picks (h.2 x hx).2.2
  omega
theorem Put_ok {K : Nat} (hK : 70000 ≤ K) {c : Cert} (h : certOk c) (hn : c.Nodes.length ≤ 65536) (hl : (certB c).length ≤ 1048576) : pack_Put K c = some (strL (certB c), 0) := by
  obtain ⟨r, h1, h2⟩ := Put_spec K (by omega) c (sm_of_ok h) (PB_ok hK h hn)
  rw [h1, h2.uniq (.inr (.inr ⟨h, hn, hl, rfl⟩))]
theorem Get_strL {K : Nat} (hK : 70000 ≤ K) {L : List Int} (hb : Byt L) : pack_Get K (strL L) = some (getR L) := by rw [Get_spec K hK, byt_back hb]

theorem awake18 (K : Nat) (hK : 70000 ≤ K) : templelaw18_awake K = some true := by
  have hl : (certB c0).length = 50 := rfl
  have hb := byt_cert c0_ok (by decide)
  have h1 : pack_Put K c0 = some (strL (certB c0), 0) := Put_ok hK c0_ok (by decide) (by omega)
  have h2 : pack_Get K (strL (certB c0)) = some (c0, 0) := by rw [Get_strL hK hb, getR_back c0_ok (by decide) (by omega)]
  have h3 : pack_Get K (⟨#[84, 67]⟩ : ByteArray) = some (⟨0, []⟩, 1800) := by rw [Get_spec K hK]; rfl
  have h4 : pack_Put K (⟨(-1), []⟩ : Cert) = some ((⟨#[]⟩ : ByteArray), 1800) := by
    obtain ⟨r, h1, h2⟩ := Put_spec K (by omega) ⟨(-1), []⟩ ⟨by unfold Small; decide, by simp⟩ ⟨⟨by simp only [List.length_nil]; omega, by simp⟩, by simp, by simp, by simp⟩
    rw [h1, h2.uniq (.inl ⟨fun h => by have := h.1.1; simp at this, rfl⟩)]
  have h5 := sameCert K c0 c0 (PR_ok hK c0_ok (by decide))
  unfold templelaw18_awake
  rw [show (⟨1, ([(⟨true, 1, (0 : Int), ⟨1, 2, 3⟩, 4, 5, 6, ([(⟨7, 8, ([9] : List Int)⟩ : Pick)] : List Pick)⟩ : Node), (⟨false, 0, 2, ⟨(0 : Int), (0 : Int), (0 : Int)⟩, (0 : Int), (0 : Int), (0 : Int), ([] : (List Pick))⟩ : Node)] : List Node)⟩ : Cert) = c0 from rfl]
  rw [h1, Option.bind_some]
  simp only
  rw [h2, Option.bind_some, h3, Option.bind_some, h4, Option.bind_some]
  have hs : (strL (certB c0)).size = 50 := by rw [strL_size, hl]
  have h6 : sls (strL (certB c0)) 0 2 = (⟨#[84, 67]⟩ : ByteArray) := by
    have := bytesL_sls (strL (certB c0)) 0 2
    rw [byt_back hb] at this
    rw [← strL_bytesL (sls (strL (certB c0)) 0 2), this]
    rfl
  rw [hs, if_pos (by decide), if_pos (by decide), if_pos h6]
  simp only [templelaw0_Num, Option.bind_some, if_true]
  rw [show (⟨c0.Root, c0.Nodes⟩ : Cert) = c0 from rfl, h5]
  rfl

/-! ### PackTurned -/
theorem sl_set_byt {L : List Int} (h : Byt L) {k : Nat} {v : Int} (hv : 0 ≤ v ∧ v < 256) : Byt (L.set k v) := fun x hx => (List.mem_or_eq_of_mem_set hx).elim (h x) fun e => e ▸ hv
theorem ixor_u8 {a b : Int} (ha : 0 ≤ a ∧ a < 256) (hb : 0 ≤ b ∧ b < 256) : 0 ≤ ixor .u8 a b ∧ ixor .u8 a b < 256 ∧ (b ≠ 0 → ixor .u8 a b ≠ a) := by
  obtain ⟨n, rfl⟩ := Int.eq_ofNat_of_zero_le ha.1
  obtain ⟨m, rfl⟩ := Int.eq_ofNat_of_zero_le hb.1
  have hn : n < 2 ^ 8 := by omega
  have hm : m < 2 ^ 8 := by omega
  have e : ixor .u8 (n : Int) (m : Int) = ((n ^^^ m : Nat) : Int) := by
    unfold ixor
    rw [show IntKind.u8.bits = 8 from rfl, BitVec.ofInt_natCast, BitVec.ofInt_natCast, BitVec.toNat_xor, BitVec.toNat_ofNat, BitVec.toNat_ofNat, Nat.mod_eq_of_lt hn, Nat.mod_eq_of_lt hm]
    have := Nat.xor_lt_two_pow hn hm
    rw [wb (by omega) (by omega)]
  have hlt := Nat.xor_lt_two_pow hn hm
  rw [e]
  refine ⟨by omega, by omega, fun h0 h => ?_⟩
  have : n ^^^ m = n := by omega
  have h2 : n ^^^ (n ^^^ m) = n ^^^ n := by rw [this]
  rw [← Nat.xor_assoc, Nat.xor_self, Nat.zero_xor] at h2
  omega

theorem PackTurned_true (K : Nat) (hK : 70000 ≤ K) (c : Cert) (at' by' : Int) (hb : PR K c) : templelaw18_PackTurned K c at' by' = some true := by
  obtain ⟨r, h1, h2⟩ := RPut_spec K (by omega) c hb
  unfold templelaw18_PackTurned
  rw [awake18 K hK, Option.bind_some, if_neg (by decide), h1, Option.bind_some]
  rcases h2 with ⟨_, rfl⟩ | ⟨_, _, rfl⟩ | ⟨hok, hn, hl, rfl⟩
  · rw [if_pos (by decide)]
  · rw [if_pos (by decide)]
  have hbt := byt_cert hok hn
  have hcl := certB_len c
  simp only
  rw [if_neg (by decide), byt_back hbt, strL_size, if_pos (by omega)]
  have hw : IntKind.wrap .u64 ((certB c).length : Int) = ((certB c).length : Int) := wu (by omega) (by omega)
  obtain ⟨k, hk, hkl⟩ : ∃ k : Nat, IntKind.wrap .i64 (Int.tmod (IntKind.wrap .u64 at') ((certB c).length : Int)) = k ∧ k < (certB c).length := by
    have h0 : 0 ≤ IntKind.wrap .u64 at' := by rw [wrap_u64]; omega
    rw [Int.tmod_eq_emod_of_nonneg h0]
    have h1 := Int.emod_nonneg (IntKind.wrap .u64 at') (show ((certB c).length : Int) ≠ 0 by omega)
    have h2 := Int.emod_lt_of_pos (IntKind.wrap .u64 at') (show (0 : Int) < ((certB c).length : Int) by omega)
    rw [wr (by omega) (by omega)]
    exact ⟨(IntKind.wrap .u64 at' % ((certB c).length : Int)).toNat, by omega, by omega⟩
  obtain ⟨d, hd, hd0, hd1⟩ : ∃ d : Int, IntKind.wrap .u8 (IntKind.wrap .i64 (1 + (IntKind.wrap .i64 (Int.tmod (IntKind.wrap .u64 by') 255)))) = d ∧ 1 ≤ d ∧ d < 256 := by
    have h0 : 0 ≤ IntKind.wrap .u64 by' := by rw [wrap_u64]; omega
    rw [Int.tmod_eq_emod_of_nonneg h0]
    have h1 := Int.emod_nonneg (IntKind.wrap .u64 by') (show (255 : Int) ≠ 0 by omega)
    have h2 := Int.emod_lt_of_pos (IntKind.wrap .u64 by') (show (0 : Int) < 255 by omega)
    rw [wr (a := IntKind.wrap .u64 by' % 255) (by omega) (by omega), wr (by omega) (by omega), wb (by omega) (by omega)]
    exact ⟨_, rfl, by omega, by omega⟩
  rw [hw, hk, hd, if_pos (by omega), if_pos (Int.natCast_nonneg k), if_pos (by omega), Int.toNat_natCast]
  have hv := hbt (rd (certB c) (k : Int)) (rd_mem (Int.natCast_nonneg k) (by omega))
  obtain ⟨x0, x1, x2⟩ := ixor_u8 hv ⟨by omega, hd1⟩
  have hne := x2 (by omega)
  generalize hL : (certB c).set k (ixor .u8 (rd (certB c) (k : Int)) d) = L
  have hLb : Byt L := by rw [← hL]; exact sl_set_byt hbt ⟨x0, x1⟩
  have hLc : L ≠ certB c := by
    intro h
    have : rd L (k : Int) = rd (certB c) (k : Int) := by rw [h]
    rw [← hL, rd_set _ hkl, if_pos rfl] at this
    exact hne this
  rw [Get_strL hK hLb, Option.bind_some, RGet_spec K hK, byt_back hLb, Option.bind_some]
  rw [show (⟨(getR L).1.Root, (getR L).1.Nodes⟩ : Cert) = (getR L).1 from rfl, sameCert K _ _ (PR_get hK hLb), Option.bind_some, decide_eq_true rfl, if_pos rfl]
  simp only [templelaw0_Num, Option.bind_some, if_true]
  rcases getR_cases hLb with ⟨c', h1, h2, h3, h4⟩ | ⟨h3, h4⟩
  · rw [if_neg (by rw [h4]; exact fun h => h rfl), sameCert K _ _ (PR_get hK hLb), Option.bind_some, decide_eq_false]
    · rfl
    · rw [h4]
      rintro rfl
      exact hLc h3
  · rw [if_pos h4]
end Go.Proofs.Ytokccimmgilciaa
