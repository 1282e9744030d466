/-
  Law PackForms of chapter 18, in plain Lean. Own work; no claim stands here.
-/
import Derived.Test.YtokccimmgilciaaPLaw18b
namespace Go.Proofs.Ytokccimmgilciaa
open S
set_option linter.unusedVariables false
set_option linter.unusedSimpArgs false
set_option maxRecDepth 100000

theorem PB_small {K : Nat} (hK : 100000 ≤ K) {c : Cert} (hn : c.Nodes.length ≤ 10) (hp : ∀ x ∈ c.Nodes, x.Picks.length ≤ 70000) (hk : ∀ x ∈ c.Nodes, ∀ p ∈ x.Picks, p.Kids.length ≤ 2000) : PB K c := by
  refine ⟨⟨by omega, by omega⟩, fun x hx => ⟨by have := hp x hx; omega, by have := hp x hx; omega⟩, fun x hx p hq => ⟨by have := hk x hx p hq; omega, by have := hk x hx p hq; omega⟩, fun x hx => ?_⟩
  rw [nodeB_len]
  have hpl := hp x hx
  have key : ∀ ps : List Pick, (∀ p ∈ ps, p.Kids.length ≤ 2000) → (picksB ps).length ≤ 10000 * ps.length := by
    intro ps
    induction ps with
    | nil => intro _; simp [picksB]
    | cons p ps ih =>
      intro hq
      have h1 := ih fun q hq' => hq q (List.mem_cons_of_mem _ hq')
      have h2 := hq p (List.mem_cons_self ..)
      have h3 := pickB_len p
      simp only [picksB, List.map_cons, List.flatten_cons, List.length_append, List.length_cons] at h1 ⊢
      omega
  have := key x.Picks (hk x hx)
  omega
theorem Put_bad {K : Nat} (hK : 100000 ≤ K) {c : Cert} (hsm : certSm c) (hn : c.Nodes.length ≤ 10) (hp : ∀ x ∈ c.Nodes, x.Picks.length ≤ 70000) (hk : ∀ x ∈ c.Nodes, ∀ p ∈ x.Picks, p.Kids.length ≤ 2000) (hb : ¬ certOk c) : pack_Put K c = some ((⟨#[]⟩ : ByteArray), 1800) := by
  obtain ⟨r, h1, h2⟩ := Put_spec K (by omega) c hsm (PB_small hK hn hp hk)
  rw [h1, h2.uniq (.inl ⟨hb, rfl⟩)]
/-- Both nodes' numbers are small; one of what is said of them is not so: the whole does not fit. -/
def Bad2 (root : Int) (a b : Node) : Prop := certSm ⟨root, [a, b]⟩ ∧ a.Picks.length ≤ 70000 ∧ b.Picks.length ≤ 70000 ∧ (∀ p ∈ a.Picks, p.Kids.length ≤ 2000) ∧ (∀ p ∈ b.Picks, p.Kids.length ≤ 2000) ∧ ¬ certOk ⟨root, [a, b]⟩
theorem Put_bad2 {K : Nat} (hK : 100000 ≤ K) {root : Int} {a b : Node} (h : Bad2 root a b) : pack_Put K ⟨root, [a, b]⟩ = some ((⟨#[]⟩ : ByteArray), 1800) := by
  obtain ⟨h1, h2, h3, h4, h5, h6⟩ := h
  refine Put_bad hK h1 (by simp) (fun x hx => ?_) (fun x hx => ?_) h6
  · simp only [List.mem_cons, List.not_mem_nil, or_false] at hx
    rcases hx with rfl | rfl
    · exact h2
    · exact h3
  · simp only [List.mem_cons, List.not_mem_nil, or_false] at hx
    rcases hx with rfl | rfl
    · exact h4
    · exact h5
def n0 : Node := ⟨false, 0, 1, ⟨0, 0, 0⟩, 0, 0, 0, []⟩
def n1 : Node := ⟨false, 1, 0, ⟨0, 0, 0⟩, 0, 0, 0, [⟨1, 0, [0]⟩]⟩
theorem sm2 {root : Int} {a b : Node} (hr : Small root) (ha : nodeSm a) (hb : nodeSm b) : certSm ⟨root, [a, b]⟩ := ⟨hr, fun x hx => by
  simp only [List.mem_cons, List.not_mem_nil, or_false] at hx
  rcases hx with rfl | rfl
  · exact ha
  · exact hb⟩
theorem sm_n0 : nodeSm n0 := by unfold nodeSm n0 Small; simp
theorem sm_pick {p : Pick} (h1 : Small p.At) (h2 : Small p.Conj) (h3 : ∀ k ∈ p.Kids, Small k) : pickSm p := ⟨h1, h2, h3⟩
theorem sm_n1 : nodeSm n1 := by unfold nodeSm n1 pickSm Small; simp
theorem bad_root {root : Int} (h : ¬ F4 root) (hs : Small root) : Bad2 root n0 n1 := ⟨sm2 hs sm_n0 sm_n1, by decide, by decide, by decide, by decide, fun h' => h h'.1⟩
theorem bad_a {a : Node} (ha : nodeSm a) (hp : a.Picks = []) (h : ¬ nodeOk a) : Bad2 0 a n1 := ⟨sm2 (by unfold Small; decide) ha sm_n1, by rw [hp]; decide, by decide, by rw [hp]; simp, by decide, fun h' => h (h'.2 a (.head _))⟩
theorem bad_b {b : Node} (hb : nodeSm b) (hp : b.Picks.length ≤ 70000) (hk : ∀ p ∈ b.Picks, p.Kids.length ≤ 2000) (h : ¬ nodeOk b) : Bad2 0 n0 b := ⟨sm2 (by unfold Small; decide) sm_n0 hb, by decide, hp, by decide, hk, fun h' => h (h'.2 b (.tail _ (.head _)))⟩

theorem cF_ok : certOk ⟨0, [n0, n1]⟩ := by
  refine ⟨⟨by decide, by decide⟩, fun x hx => ?_⟩
  simp only [List.mem_cons, List.not_mem_nil, or_false] at hx
  rcases hx with rfl | rfl
  · exact ⟨.inl ⟨rfl, rfl⟩, ⟨⟨by decide, by decide⟩, ⟨by decide, by decide⟩, ⟨by decide, by decide⟩, ⟨by decide, by decide⟩, ⟨by decide, by decide⟩, ⟨by decide, by decide⟩, ⟨by decide, by decide⟩, ⟨by decide, by decide⟩, ⟨by decide, by decide⟩⟩, by simp [n0]⟩
  · refine ⟨.inr ⟨rfl, rfl⟩, ⟨⟨by decide, by decide⟩, ⟨by decide, by decide⟩, ⟨by decide, by decide⟩, ⟨by decide, by decide⟩, ⟨by decide, by decide⟩, ⟨by decide, by decide⟩, ⟨by decide, by decide⟩, ⟨by decide, by decide⟩, ⟨by decide, by decide⟩⟩, fun p hp => ?_⟩
    simp only [n1, List.mem_singleton] at hp
    subst hp
    exact ⟨⟨by decide, by decide⟩, ⟨by decide, by decide⟩, ⟨by decide, by decide⟩, by intro k hk; simp at hk; subst hk; exact ⟨by decide, by decide⟩⟩
/-- What comes behind the choice. -/
def restF (K : Nat) (r : ByteArray × Int) (p : Int × List Node) : Option Bool := (pack_Put K (⟨p.1, p.2⟩ : Cert)).bind fun r_69 => (templelaw0_Num K r.2).bind fun r_71 => if r_71 = 0 then if r_69.1 = (⟨#[]⟩ : ByteArray) then (templelaw0_Num K r_69.2).bind fun r_75 => some (decide (r_75 = 1800)) else some false else some false
theorem restF_true {K : Nat} (hK : 100000 ≤ K) {s : ByteArray} {root : Int} {a b : Node} (h : Bad2 root a b) : restF K (s, 0) (root, [a, b]) = some true := by
  unfold restF
  simp only [templelaw0_Num, Option.bind_some]
  rw [Put_bad2 hK h]
  rfl
theorem twenty (x : Int) : Int.tmod (IntKind.wrap .u64 x) 20 = 0 ∨ Int.tmod (IntKind.wrap .u64 x) 20 = 1 ∨ Int.tmod (IntKind.wrap .u64 x) 20 = 2 ∨ Int.tmod (IntKind.wrap .u64 x) 20 = 3 ∨ Int.tmod (IntKind.wrap .u64 x) 20 = 4 ∨ Int.tmod (IntKind.wrap .u64 x) 20 = 5 ∨ Int.tmod (IntKind.wrap .u64 x) 20 = 6 ∨ Int.tmod (IntKind.wrap .u64 x) 20 = 7 ∨ Int.tmod (IntKind.wrap .u64 x) 20 = 8 ∨ Int.tmod (IntKind.wrap .u64 x) 20 = 9 ∨ Int.tmod (IntKind.wrap .u64 x) 20 = 10 ∨ Int.tmod (IntKind.wrap .u64 x) 20 = 11 ∨ Int.tmod (IntKind.wrap .u64 x) 20 = 12 ∨ Int.tmod (IntKind.wrap .u64 x) 20 = 13 ∨ Int.tmod (IntKind.wrap .u64 x) 20 = 14 ∨ Int.tmod (IntKind.wrap .u64 x) 20 = 15 ∨ Int.tmod (IntKind.wrap .u64 x) 20 = 16 ∨ Int.tmod (IntKind.wrap .u64 x) 20 = 17 ∨ Int.tmod (IntKind.wrap .u64 x) 20 = 18 ∨ Int.tmod (IntKind.wrap .u64 x) 20 = 19 := by
  have h3 : 0 ≤ IntKind.wrap .u64 x := by rw [wrap_u64]; omega
  have h4 : 0 ≤ Int.tmod (IntKind.wrap .u64 x) 20 := Int.tmod_nonneg _ h3
  have h5 : Int.tmod (IntKind.wrap .u64 x) 20 < 20 := Int.tmod_lt_of_pos _ (by decide)
  omega
theorem PackForms_true (K : Nat) (hK : 100000 ≤ K) (which x : Int) : templelaw18_PackForms K which x = some true := by
  have hd : ∃ d, IntKind.wrap .i64 (1 + iand .i64 x 1023) = d ∧ 1 ≤ d ∧ d ≤ 1024 := by
    have h := iand_mask x 10 (by decide)
    rw [show ((2 ^ 10 - 1 : Nat) : Int) = 1023 from rfl, show ((2 ^ 10 : Nat) : Int) = 1024 from rfl] at h
    exact ⟨_, rfl, by rw [h, wr (by omega) (by omega)]; omega, by rw [h, wr (by omega) (by omega)]; omega⟩
  obtain ⟨d, hd, d1, d2⟩ := hd
  have h1 := Put_ok (K := K) (by omega) cF_ok (by decide) (by decide)
  unfold n0 n1 at h1
  unfold templelaw18_PackForms
  rw [awake18 K (by omega), Option.bind_some, if_neg (by decide)]
  have h1' : pack_Put K (⟨(0 : Int), ([(⟨false, 0, 1, ⟨(0 : Int), (0 : Int), (0 : Int)⟩, (0 : Int), (0 : Int), (0 : Int), ([] : List Pick)⟩ : Node), (⟨false, 1, (0 : Int), ⟨(0 : Int), (0 : Int), (0 : Int)⟩, (0 : Int), (0 : Int), (0 : Int), ([(⟨1, (0 : Int), ([0] : List Int)⟩ : Pick)] : List Pick)⟩ : Node)] : List Node)⟩ : Cert) = some (strL (certB ⟨0, [n0, n1]⟩), 0) := h1
  rw [h1', Option.bind_some, if_pos (by decide), if_pos (by decide), hd]
  have w1 : IntKind.wrap .i64 (4294967295 + d) = 4294967295 + d := wr (by omega) (by omega)
  have w2 : IntKind.wrap .i64 (1 + d) = 1 + d := wr (by omega) (by omega)
  have w3 : IntKind.wrap .i64 (65535 + d) = 65535 + d := wr (by omega) (by omega)
  have w4 : IntKind.wrap .i64 (255 + d) = 255 + d := wr (by omega) (by omega)
  have w5 : IntKind.wrap .i64 (-d) = -d := wr (by omega) (by omega)
  have w6 : IntKind.wrap .i64 (0 - d) = 0 - d := wr (by omega) (by omega)
  rw [w1, w2, w3, w4, w5, w6]
  rcases twenty which with h | h | h | h | h | h | h | h | h | h | h | h | h | h | h | h | h | h | h | h <;> rw [h]
  · show restF K _ (4294967295 + d, [n0, n1]) = some true
    exact restF_true hK (bad_root (fun h => by have := h.2; omega) (by unfold Small; omega))
  · show restF K _ (0, [(⟨false, 1 + d, 1, ⟨0, 0, 0⟩, 0, 0, 0, []⟩ : Node), n1]) = some true
    exact restF_true hK (bad_a (by simp [nodeSm, pickSm, Small]; try omega) rfl (fun h => by rcases h.1 with ⟨h1, _⟩ | ⟨h1, _⟩ <;> simp only at h1 <;> omega))
  · show restF K _ (0, [(⟨false, 0, 1, ⟨0, 0, 1⟩, 0, 0, 0, []⟩ : Node), n1]) = some true
    exact restF_true hK (bad_a (by simp [nodeSm, pickSm, Small]; try omega) rfl (fun h => by rcases h.1 with ⟨h1, h2⟩ | ⟨h1, h2⟩ <;> simp at h1 h2))
  · show restF K _ (0, [n0, (⟨false, 1, 1, ⟨0, 0, 0⟩, 0, 0, 0, [⟨1, 0, [0]⟩]⟩ : Node)]) = some true
    exact restF_true hK (bad_b (by simp [nodeSm, pickSm, Small]; try omega) (by simp) (by simp) (fun h => by rcases h.1 with ⟨h1, h2⟩ | ⟨h1, h2⟩ <;> simp at h1 h2))
  · show restF K _ (0, [(⟨false, 0, 65535 + d, ⟨0, 0, 0⟩, 0, 0, 0, []⟩ : Node), n1]) = some true
    exact restF_true hK (bad_a (by simp [nodeSm, pickSm, Small]; try omega) rfl (fun h => by have := h.2.1.2.1; simp only [F1, F2, F4] at this; omega))
  · show restF K _ (0, [(⟨false, 0, -d, ⟨0, 0, 0⟩, 0, 0, 0, []⟩ : Node), n1]) = some true
    exact restF_true hK (bad_a (by simp [nodeSm, pickSm, Small]; try omega) rfl (fun h => by have := h.2.1.2.1; simp only [F1, F2, F4] at this; omega))
  · show restF K _ (0, [n0, (⟨false, 1, 0, ⟨65535 + d, 0, 0⟩, 0, 0, 0, [⟨1, 0, [0]⟩]⟩ : Node)]) = some true
    exact restF_true hK (bad_b (by simp [nodeSm, pickSm, Small]; try omega) (by simp) (by simp) (fun h => by have := h.2.1.2.2.1; simp only [F1, F2, F4] at this; omega))
  · show restF K _ (0, [n0, (⟨false, 1, 0, ⟨0, 255 + d, 0⟩, 0, 0, 0, [⟨1, 0, [0]⟩]⟩ : Node)]) = some true
    exact restF_true hK (bad_b (by simp [nodeSm, pickSm, Small]; try omega) (by simp) (by simp) (fun h => by have := h.2.1.2.2.2.1; simp only [F1, F2, F4] at this; omega))
  · show restF K _ (0, [n0, (⟨false, 1, 0, ⟨0, 0, -d⟩, 0, 0, 0, [⟨1, 0, [0]⟩]⟩ : Node)]) = some true
    exact restF_true hK (bad_b (by simp [nodeSm, pickSm, Small]; try omega) (by simp) (by simp) (fun h => by have := h.2.1.2.2.2.2.1; simp only [F1, F2, F4] at this; omega))
  · show restF K _ (0, [n0, (⟨false, 1, 0, ⟨0, 0, 0⟩, 255 + d, 0, 0, [⟨1, 0, [0]⟩]⟩ : Node)]) = some true
    exact restF_true hK (bad_b (by simp [nodeSm, pickSm, Small]; try omega) (by simp) (by simp) (fun h => by have := h.2.1.2.2.2.2.2.1; simp only [F1, F2, F4] at this; omega))
  · show restF K _ (0, [n0, (⟨false, 1, 0, ⟨0, 0, 0⟩, 0, -d, 0, [⟨1, 0, [0]⟩]⟩ : Node)]) = some true
    exact restF_true hK (bad_b (by simp [nodeSm, pickSm, Small]; try omega) (by simp) (by simp) (fun h => by have := h.2.1.2.2.2.2.2.2.1; simp only [F1, F2, F4] at this; omega))
  · show restF K _ (0, [n0, (⟨false, 1, 0, ⟨0, 0, 0⟩, 0, 0, -d, [⟨1, 0, [0]⟩]⟩ : Node)]) = some true
    exact restF_true hK (bad_b (by simp [nodeSm, pickSm, Small]; try omega) (by simp) (by simp) (fun h => by have := h.2.1.2.2.2.2.2.2.2.1; simp only [F1, F2, F4] at this; omega))
  · show restF K _ (0, [n0, (⟨false, 1, 0, ⟨0, 0, 0⟩, 0, 0, 4294967295 + d, [⟨1, 0, [0]⟩]⟩ : Node)]) = some true
    exact restF_true hK (bad_b (by simp [nodeSm, pickSm, Small]; try omega) (by simp) (by simp) (fun h => by have := h.2.1.2.2.2.2.2.2.2.1; simp only [F1, F2, F4] at this; omega))
  · show (if 0 ≤ 65535 + d then if (40 : Int) * (65535 + d) ≤ 281474976710656 then some ((0 : Int), [n0, (⟨false, 1, 0, ⟨0, 0, 0⟩, 0, 0, 0, List.replicate (65535 + d).toNat zPick⟩ : Node)]) else none else none).bind (restF K _) = some true
    rw [if_pos (by omega), if_pos (by omega), Option.bind_some]
    refine restF_true hK (bad_b ⟨by unfold Small; simp, by unfold Small; simp, by unfold Small; simp, by unfold Small; simp, by unfold Small; simp, by unfold Small; simp, by unfold Small; simp, by unfold Small; simp, fun p hp => ?_⟩ (by simp; omega) (fun p hp => ?_) (fun h => ?_))
    · rw [(List.mem_replicate.1 hp).2]; unfold pickSm zPick Small; simp
    · rw [(List.mem_replicate.1 hp).2]; simp [zPick]
    · have := h.2.1.2.2.2.2.2.2.2.2.2
      simp only [List.length_replicate] at this
      omega
  · show restF K _ (0, [n0, (⟨false, 1, 0, ⟨0, 0, 0⟩, 0, 0, 0, [⟨-d, 0, [0]⟩]⟩ : Node)]) = some true
    exact restF_true hK (bad_b (by simp [nodeSm, pickSm, Small]; try omega) (by simp) (by simp) (fun h => by have := (h.2.2 _ (.head _)).1; simp only [F2] at this; omega))
  · show restF K _ (0, [n0, (⟨false, 1, 0, ⟨0, 0, 0⟩, 0, 0, 0, [⟨1, 255 + d, [0]⟩]⟩ : Node)]) = some true
    exact restF_true hK (bad_b (by simp [nodeSm, pickSm, Small]; try omega) (by simp) (by simp) (fun h => by have := (h.2.2 _ (.head _)).2.1; simp only [F1] at this; omega))
  · show (if 0 ≤ 255 + d then if (8 : Int) * (255 + d) ≤ 281474976710656 then some ((0 : Int), [n0, (⟨false, 1, 0, ⟨0, 0, 0⟩, 0, 0, 0, [⟨1, 0, List.replicate (255 + d).toNat 0⟩]⟩ : Node)]) else none else none).bind (restF K _) = some true
    rw [if_pos (by omega), if_pos (by omega), Option.bind_some]
    refine restF_true hK (bad_b ⟨by unfold Small; simp, by unfold Small; simp, by unfold Small; simp, by unfold Small; simp, by unfold Small; simp, by unfold Small; simp, by unfold Small; simp, by unfold Small; simp, fun p hp => ?_⟩ (by simp) (fun p hp => ?_) (fun h => ?_))
    · rw [List.mem_singleton] at hp; subst hp
      exact ⟨by unfold Small; simp, by unfold Small; simp, fun k hk => by rw [(List.mem_replicate.1 hk).2]; unfold Small; simp⟩
    · rw [List.mem_singleton] at hp; subst hp; simp; omega
    · have := (h.2.2 _ (.head _)).2.2.1.2
      simp only [List.length_replicate] at this
      omega
  · show restF K _ (0, [n0, (⟨false, 1, 0, ⟨0, 0, 0⟩, 0, 0, 0, [⟨1, 0, [-d]⟩]⟩ : Node)]) = some true
    exact restF_true hK (bad_b (by simp [nodeSm, pickSm, Small]; try omega) (by simp) (by simp) (fun h => by have := (h.2.2 _ (.head _)).2.2.2 (-d) (.head _); simp only [F4] at this; omega))
  · show restF K _ (0, [n0, (⟨false, 1, 0, ⟨0, 0, 0⟩, 0, 0, 0, [⟨1, 0, [4294967295 + d]⟩]⟩ : Node)]) = some true
    exact restF_true hK (bad_b (by simp [nodeSm, pickSm, Small]; try omega) (by simp) (by simp) (fun h => by have := (h.2.2 _ (.head _)).2.2.2 (4294967295 + d) (.head _); simp only [F4] at this; omega))
  · show restF K _ (0, [(⟨false, 0 - d, 1, ⟨0, 0, 0⟩, 0, 0, 0, []⟩ : Node), n1]) = some true
    exact restF_true hK (bad_a (by simp [nodeSm, pickSm, Small]; try omega) rfl (fun h => by rcases h.1 with ⟨h1, _⟩ | ⟨h1, _⟩ <;> simp only at h1 <;> omega))
theorem PackForms_holds (which x : Int) : ∃ K, templelaw18_PackForms K which x = some true := ⟨100000, PackForms_true 100000 (Nat.le_refl _) which x⟩
end Go.Proofs.Ytokccimmgilciaa
