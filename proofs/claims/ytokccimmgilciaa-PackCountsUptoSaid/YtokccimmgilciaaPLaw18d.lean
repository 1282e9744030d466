/-
  Laws PackBack and PackCounts of chapter 18 (where the arguments are small), in plain Lean. Own work; no claim stands here.
-/
import Derived.Test.YtokccimmgilciaaPLaw18b
import Derived.Test.YtokccimmgilciaaM
namespace Go.Proofs.Ytokccimmgilciaa
open S
set_option linter.unusedVariables false
set_option linter.unusedSimpArgs false
set_option maxRecDepth 100000

/-! ### Small arguments -/
theorem mu_mem {T : Type} {mu : T → Nat} {xs : List T} {x : T} (h : x ∈ xs) : mu x < muL mu xs := by
  have : ∀ xs : List T, x ∈ xs → mu x ≤ (xs.map mu).sum := by
    intro xs
    induction xs with
    | nil => intro h; nomatch h
    | cons a t ih =>
      intro h
      simp only [List.map_cons, List.sum_cons]
      rcases List.mem_cons.1 h with rfl | h
      · omega
      · have := ih h; omega
  have := this xs h
  unfold muL; omega
theorem mu_len {T : Type} {mu : T → Nat} {xs : List T} (h1 : ∀ x, 1 ≤ mu x) : xs.length < muL mu xs := by
  unfold muL
  have : xs.length ≤ (xs.map mu).sum := by
    induction xs with
    | nil => simp
    | cons a t ih => have := h1 a; simp only [List.map_cons, List.sum_cons, List.length_cons]; omega
  omega
theorem picks_mu (ps : List Pick) : (picksB ps).length ≤ 4 * muL muPick ps := by
  unfold muL
  induction ps with
  | nil => simp [picksB]
  | cons a t ih =>
    have h1 : (pickB a).length ≤ 4 * muPick a := by
      rw [pickB_len]
      have := mu_len (mu := muI) (xs := a.Kids) (fun _ => Nat.le_refl 1)
      unfold muPick; simp only [muI] at *; omega
    have : picksB (a :: t) = pickB a ++ picksB t := by simp [picksB]
    rw [this, List.length_append]
    simp only [List.map_cons, List.sum_cons]
    omega
theorem PB_mu (c : Cert) (h : muCert c ≤ 1048576) : PB 2000000 c := by
  have h0 : muL muNode c.Nodes ≤ 1048576 := by unfold muCert at h; omega
  have n1 := mu_len (mu := muNode) (xs := c.Nodes) (fun x => by unfold muNode; omega)
  have hp : ∀ x ∈ c.Nodes, muL muPick x.Picks ≤ 1048576 := fun x hx => by
    have := mu_mem (mu := muNode) hx
    have e : muL muPick x.Picks ≤ muNode x := by unfold muNode; omega
    omega
  have hk : ∀ x ∈ c.Nodes, ∀ p ∈ x.Picks, muL muI p.Kids ≤ 1048576 := fun x hx p hq => by
    have := mu_mem (mu := muPick) hq
    have e : muL muI p.Kids ≤ muPick p := by unfold muPick; omega
    have := hp x hx
    omega
  refine ⟨⟨by omega, by omega⟩, fun x hx => ?_, fun x hx p hq => ?_, fun x hx => ?_⟩
  · have := mu_len (mu := muPick) (xs := x.Picks) (fun x => by unfold muPick; omega)
    have := hp x hx
    exact ⟨by omega, by omega⟩
  · have := mu_len (mu := muI) (xs := p.Kids) (fun x => Nat.le_refl 1)
    have := hk x hx p hq
    exact ⟨by omega, by omega⟩
  · have := picks_mu x.Picks
    have := hp x hx
    rw [nodeB_len]; omega
theorem PR_mu (c : Cert) (h : muCert c ≤ 1048576) : PR 2000000 c := by
  obtain ⟨h1, h2, h3, _⟩ := PB_mu c h
  exact ⟨⟨h1.1, by omega⟩, fun x hx => ⟨(h2 x hx).1, by have := (h2 x hx).1; omega⟩, fun x hx p hq => ⟨(h3 x hx p hq).1, by have := (h3 x hx p hq).1; omega⟩⟩
theorem small_wf {n : Int} (h : wfI .i64 n) : Small n := by
  unfold wfI at h
  simp [Lit.wf, IntKind.min, IntKind.max, IntKind.signed, IntKind.bits] at h
  unfold Small; omega
theorem sm_wf (c : Cert) (w : wfCert c) : certSm c := by
  obtain ⟨w0, _, w1⟩ := w
  refine ⟨small_wf w0, fun x hx => ?_⟩
  obtain ⟨_, a1, a2, ⟨a3, a4, a5⟩, a6, a7, a8, _, a9⟩ := w1 x hx
  refine ⟨small_wf a1, small_wf a2, small_wf a3, small_wf a4, small_wf a5, small_wf a6, small_wf a7, small_wf a8, fun p hp => ?_⟩
  obtain ⟨b1, b2, _, b3⟩ := a9 p hp
  exact ⟨small_wf b1, small_wf b2, fun k hk => small_wf (b3 k hk)⟩

/-! ### PackBack -/
theorem bytesL_app (a b : ByteArray) : bytesL (a ++ b) = bytesL a ++ bytesL b := by
  rw [← strL_bytesL a, ← strL_bytesL b, strL_app, byt_back ((bytesL_byt a).app (bytesL_byt b)), byt_back (bytesL_byt a), byt_back (bytesL_byt b)]
theorem byt_sub {a b : List Int} (h : Byt b) (hs : ∀ x ∈ a, x ∈ b) : Byt a := fun v hv => h v (hs v hv)
theorem getR_take {c : Cert} (h : certOk c) (hn : c.Nodes.length ≤ 65536) (hl : (certB c).length ≤ 1048576) {k : Nat} (hk : k < (certB c).length) : getR ((certB c).take k) = (⟨0, []⟩, 1800) := by
  refine getR_no (byt_sub (byt_cert h hn) fun x hx => List.mem_of_mem_take hx) (fun d hd hm e => ?_) (by rw [List.length_take]; omega)
  have e2 : certB c ++ [] = certB d ++ (certB c).drop k := by rw [← e, List.take_append_drop, List.append_nil]
  have := (certB_inj h hn hd hm e2).2
  have := congrArg List.length this
  simp at this; omega
theorem getR_more {c : Cert} (h : certOk c) (hn : c.Nodes.length ≤ 65536) (hl : (certB c).length < 1048576) : getR (certB c ++ [97]) = (⟨0, []⟩, 1800) := by
  refine getR_no ((byt_cert h hn).app (by intro v hv; simp at hv; subst hv; decide)) (fun d hd hm e => ?_) (by rw [List.length_append]; simp; omega)
  have e2 : certB c ++ [97] = certB d ++ [] := by rw [e, List.append_nil]
  have := (certB_inj h hn hd hm e2).2
  nomatch this
theorem getR_off {c : Cert} (h : certOk c) (hn : c.Nodes.length ≤ 65536) : (getR (certB c ++ [97])).2 = 0 → False := by
  intro h0
  have hb : Byt (certB c ++ [97]) := (byt_cert h hn).app (by intro v hv; simp at hv; subst hv; decide)
  have e : getR (certB c ++ [97]) = ((getR (certB c ++ [97])).1, 0) := by rw [← h0]
  obtain ⟨g1, g2, g3, _⟩ := getR_cert hb e
  have e2 : certB c ++ [97] = certB (getR (certB c ++ [97])).1 ++ [] := by rw [List.append_nil]; exact g3
  nomatch (certB_inj h hn g1 g2 e2).2
theorem back_tail (K : Nat) (hK : 70000 ≤ K) (s : ByteArray) :
    ((pack_Get K s).bind fun r_44 => (templelaw0_Num K r_44.2).bind fun r_47 => if r_47 ≠ 0 then some (decide ((r_44.1.Nodes.length : Int) = 0)) else (pack_Put K (⟨r_44.1.Root, r_44.1.Nodes⟩ : Cert)).bind fun r_50 => (templelaw0_Num K r_50.2).bind fun r_52 => if r_52 = 0 then some (decide (r_50.1 = s)) else some false) = some true := by
  rw [Get_spec K hK]
  simp only [Option.bind_some, templelaw0_Num]
  have hb := bytesL_byt s
  rcases getR_err (bytesL s) with h | ⟨h1, h2⟩
  · rw [if_neg (fun q => q h)]
    have e : getR (bytesL s) = ((getR (bytesL s)).1, 0) := by rw [← h]
    obtain ⟨g1, g2, g3, g4⟩ := getR_cert hb e
    rw [show (⟨(getR (bytesL s)).1.Root, (getR (bytesL s)).1.Nodes⟩ : Cert) = (getR (bytesL s)).1 from rfl, Put_ok hK g1 g2 (by rw [← g3]; exact g4), ← g3, strL_bytesL]
    simp
  · rw [if_pos h2, h1]; rfl
theorem size_empty : (⟨#[]⟩ : ByteArray).size = 0 := rfl
theorem PackBack_true (K : Nat) (hK : 70000 ≤ K) (c : Cert) (s : ByteArray) (cut : Int) (hr : PR K c) (hsm : certSm c) (hb : PB K c) : templelaw18_PackBack K c s cut = some true := by
  obtain ⟨r, h1, h2⟩ := Put_spec K (by omega) c hsm hb
  unfold templelaw18_PackBack
  rw [awake18 K hK, Option.bind_some, if_neg (by decide), h1]
  rw [Option.bind_some]
  have hN : ∀ x, templelaw0_Num K x = some x := fun _ => rfl
  rcases h2 with ⟨_, rfl⟩ | ⟨_, _, rfl⟩ | ⟨hok, hn, hl, rfl⟩
  · rw [hN, Option.bind_some, if_neg (by decide), brk, Option.bind_some, Option.bind_some, if_neg (by decide), brk, Option.bind_some]
    exact back_tail K hK s
  · rw [hN, Option.bind_some, if_neg (by decide), brk, Option.bind_some, Option.bind_some, if_neg (by decide), brk, Option.bind_some]
    exact back_tail K hK s
  · have hcl := certB_len c
    have hby := byt_cert hok hn
    have hz : (strL (certB c)).size = (certB c).length := strL_size _
    rw [hN, Option.bind_some, if_pos rfl, if_neg (fun h => by have := congrArg ByteArray.size h; rw [hz, size_empty] at this; omega), brk, Option.bind_some]
    have ht := back_tail K hK s
    simp only [hN, Option.bind_some] at ht ⊢
    rw [if_true, Get_strL hK hby, getR_back hok hn hl]
    simp only [Option.bind_some]
    have hw : IntKind.wrap .u64 ((strL (certB c)).size : Int) = ((certB c).length : Int) := by rw [hz, wrap_u64]; omega
    have c0 : 0 ≤ IntKind.wrap .u64 cut := by rw [wrap_u64]; omega
    have m0 := Int.emod_nonneg (IntKind.wrap .u64 cut) (show ((certB c).length : Int) ≠ 0 by omega)
    have m1 := Int.emod_lt_of_pos (IntKind.wrap .u64 cut) (show (0 : Int) < ((certB c).length : Int) by omega)
    rw [hw, Int.tmod_eq_emod_of_nonneg c0, wr (a := IntKind.wrap .u64 cut % ((certB c).length : Int)) (by omega) (by omega)]
    generalize IntKind.wrap .u64 cut % ((certB c).length : Int) = k at m0 m1
    rw [if_pos (by omega), if_pos m0, hz, if_pos (by omega)]
    have e1 : pack_Get K (sls (strL (certB c)) 0 k) = some (⟨0, []⟩, 1800) := by
      rw [Get_spec K hK, bytesL_sls, byt_back hby]
      show some (getR (List.take k.toNat (certB c))) = _
      rw [getR_take hok hn hl (by omega)]
    have e2 : pack_Get K (strL (certB c) ++ (⟨#[97]⟩ : ByteArray)) = some (getR (certB c ++ [97])) := by
      rw [Get_spec K hK, bytesL_app, byt_back hby]; rfl
    rw [e1, e2, Option.bind_some, if_pos (by rw [show ((⟨#[97]⟩ : ByteArray).size : Int) = 1 from rfl]; omega)]
    simp only [Option.bind_some]
    rw [if_neg (by decide), sameCert K c _ hr, decide_eq_true rfl, Option.bind_some, if_neg (by decide), if_neg (fun h => h rfl)]
    by_cases hlt : ((certB c).length : Int) < 1048576
    · rw [if_pos hlt, getR_more hok hn (by omega), if_neg (by decide), brk, Option.bind_some]; exact ht
    · rw [if_neg hlt, brk, Option.bind_some]; exact ht

/-! ### PackCounts -/
theorem nodes_one {a b : List Node} (ha : ∀ x ∈ a, nodeOk x) (hb : ∀ x ∈ b, nodeOk x) (hl : a.length ≤ b.length) (h : nodesB a = nodesB b) : a.length = b.length := by
  have hb1 : ∀ x ∈ b.take a.length, nodeOk x := fun x hx => hb x (List.mem_of_mem_take hx)
  have e0 : nodesB b = nodesB (b.take a.length) ++ nodesB (b.drop a.length) := by
    unfold nodesB
    rw [← List.flatten_append, ← List.map_append, List.take_append_drop]
  have p1 := pmany_back (p := pnode) (enc := nodeB) a [] (fun x hx R => pnode_back (ha x hx) R)
  have p2 := pmany_back (p := pnode) (enc := nodeB) (b.take a.length) (nodesB (b.drop a.length)) (fun x hx R => pnode_back (hb1 x hx) R)
  rw [show (a.map nodeB).flatten = nodesB a from rfl, List.append_nil, h, e0] at p1
  rw [show ((b.take a.length).map nodeB).flatten = nodesB (b.take a.length) from rfl, show (b.take a.length).length = a.length by rw [List.length_take]; omega, p1] at p2
  have e : ([] : List Int) = nodesB (b.drop a.length) := (Prod.mk.inj (Option.some.inj p2)).2
  cases hd : b.drop a.length with
  | nil => have := congrArg List.length hd; rw [List.length_drop] at this; simp at this; omega
  | cons x t =>
    rw [hd] at e
    have := congrArg List.length e
    rw [show nodesB (x :: t) = nodeB x ++ nodesB t by simp [nodesB], List.length_append, nodeB_len] at this
    simp at this; omega
theorem getR_count {c : Cert} (h : certOk c) (hn : c.Nodes.length ≤ 65536) (hl : (certB c).length ≤ 1048576) {n : Int} (hf : F4 n) (hne : n ≠ (c.Nodes.length : Int)) : getR ([84, 67] ++ (B4 c.Root ++ (B4 n ++ nodesB c.Nodes))) = (⟨0, []⟩, 1800) := by
  have hcl := certB_len c
  refine getR_no ?_ (fun d hd hm e => ?_) (by simp [B4]; omega)
  · exact Byt.app (by intro v hv; simp at hv; rcases hv with rfl | rfl <;> decide) ((byt4 h.1).app ((byt4 hf).app (byt_nodes h.2)))
  · have e' : B4 c.Root ++ (B4 n ++ nodesB c.Nodes) = B4 d.Root ++ (B4 (d.Nodes.length : Int) ++ nodesB d.Nodes) := List.append_cancel_left e
    have q1 := pnum4_back h.1 (B4 n ++ nodesB c.Nodes)
    rw [e', pnum4_back hd.1] at q1
    have e2 : B4 (d.Nodes.length : Int) ++ nodesB d.Nodes = B4 n ++ nodesB c.Nodes := (Prod.mk.inj (Option.some.inj q1)).2
    have q2 := pnum4_back hf (nodesB c.Nodes)
    rw [← e2, pnum4_back ⟨by omega, by omega⟩] at q2
    have e3 := Prod.mk.inj (Option.some.inj q2)
    rcases Nat.le_total c.Nodes.length d.Nodes.length with hle | hle
    · have := nodes_one h.2 hd.2 hle e3.2.symm; omega
    · have := nodes_one hd.2 h.2 hle e3.2; omega
theorem getR_bad {L : List Int} (hb : Byt L) (hl : L.length ≤ 1048576) (h : L.take 2 ≠ [84, 67]) : getR L = (⟨0, []⟩, 1800) := by
  refine getR_no hb (fun d hd hm e => h ?_) hl
  rw [e]; rfl
theorem be_spec (K : Nat) {x : Int} (h : F4 x) : templelaw18_be K x = some (strL (B4 x)) := by
  obtain ⟨h0, h1⟩ := h
  unfold templelaw18_be
  have h8 := ishr_i64 x 8 (by omega)
  have h16 := ishr_i64 x 16 (by omega)
  have h24 := ishr_i64 x 24 (by omega)
  rw [show ((8 : Nat) : Int) = 8 from rfl] at h8
  rw [show ((16 : Nat) : Int) = 16 from rfl] at h16
  rw [show ((24 : Nat) : Int) = 24 from rfl] at h24
  rw [h8, h16, h24, fd _ _ (by decide), fd _ _ (by decide), fd _ _ (by decide), w8, w8, w8, w8]
  have e1 : x / 2 ^ 24 % 256 = x / 16777216 := by rw [show (2 : Int) ^ 24 = 16777216 from rfl]; omega
  rw [e1]
  rfl
theorem PackCounts_true (K : Nat) (hK : 70000 ≤ K) (c : Cert) (y : Int) (hsm : certSm c) (hb : PB K c) : templelaw18_PackCounts K c y = some true := by
  obtain ⟨r, h1, h2⟩ := Put_spec K (by omega) c hsm hb
  unfold templelaw18_PackCounts
  have hN : ∀ x, templelaw0_Num K x = some x := fun _ => rfl
  rw [awake18 K hK, Option.bind_some, if_neg (by decide), h1, Option.bind_some]
  rcases h2 with ⟨_, rfl⟩ | ⟨_, _, rfl⟩ | ⟨hok, hn, hl, rfl⟩
  · rw [hN, Option.bind_some, if_pos (by decide), Option.bind_some]; rfl
  · rw [hN, Option.bind_some, if_pos (by decide), Option.bind_some]; rfl
  · have hcl := certB_len c
    have hby := byt_cert hok hn
    have hz : (strL (certB c)).size = (certB c).length := strL_size _
    have s6 : sls (strL (certB c)) 0 6 = strL ([84, 67] ++ B4 c.Root) := by
      rw [← strL_bytesL (sls _ _ _), bytesL_sls, byt_back hby]; rfl
    have s2 : sls (strL (certB c)) 2 ((strL (certB c)).size : Int) = strL (B4 c.Root ++ (B4 (c.Nodes.length : Int) ++ nodesB c.Nodes)) := by
      rw [← strL_bytesL (sls _ _ _), bytesL_sls, byt_back hby, hz, Int.toNat_natCast, List.take_length]; rfl
    have s10 : sls (strL (certB c)) 10 ((strL (certB c)).size : Int) = strL (nodesB c.Nodes) := by
      rw [← strL_bytesL (sls _ _ _), bytesL_sls, byt_back hby, hz, Int.toNat_natCast, List.take_length]; rfl
    have l6 : (strL ([84, 67] ++ B4 c.Root)).size = 6 := by rw [strL_size]; rfl
    have lB : ∀ n, (strL (B4 n)).size = 4 := fun n => by rw [strL_size]; rfl
    have l66 : ∀ n, (strL (([84, 67] ++ B4 c.Root) ++ B4 n)).size = 10 := fun n => by rw [strL_size]; rfl
    have lN : (strL (nodesB c.Nodes)).size = (nodesB c.Nodes).length := strL_size _
    have hget : ∀ n, F4 n → n ≠ (c.Nodes.length : Int) → pack_Get K (strL ((([84, 67] ++ B4 c.Root) ++ B4 n) ++ nodesB c.Nodes)) = some (⟨0, []⟩, 1800) := fun n hf hne => by
      have hbt : Byt ((([84, 67] ++ B4 c.Root) ++ B4 n) ++ nodesB c.Nodes) := ((Byt.app (by intro v hv; simp at hv; rcases hv with rfl | rfl <;> decide) (byt4 hok.1)).app (byt4 hf)).app (byt_nodes hok.2)
      rw [Get_strL hK hbt, List.append_assoc, List.append_assoc, getR_count hok hn hl hf hne]
    have hXX : pack_Get K (strL ([88, 88] ++ (B4 c.Root ++ (B4 (c.Nodes.length : Int) ++ nodesB c.Nodes)))) = some (⟨0, []⟩, 1800) := by
      have hbt : Byt ([88, 88] ++ (B4 c.Root ++ (B4 (c.Nodes.length : Int) ++ nodesB c.Nodes))) := Byt.app (by intro v hv; simp at hv; subst hv; decide) ((byt4 hok.1).app ((byt4 ⟨by omega, by omega⟩).app (byt_nodes hok.2)))
      rw [Get_strL hK hbt, getR_bad hbt (by simp [B4]; omega) (fun h => by simp at h)]
    have hm : IntKind.wrap .i64 ((c.Nodes.length : Int) + (IntKind.wrap .i64 (1 + (iand .i64 y 63)))) = (c.Nodes.length : Int) + (1 + y % 64) := by
      rw [and63, wr (a := 1 + y % 64) (by omega) (by omega), wr (by omega) (by omega)]
    have hf1 : F4 ((c.Nodes.length : Int) + (1 + y % 64)) := ⟨by omega, by omega⟩
    rw [hN, Option.bind_some, if_neg (fun h => h rfl), hz, if_neg (by omega), if_pos (by omega), hm, be_spec K hf1, Option.bind_some, ← hz, s6, s2, s10, l6, lB, if_pos (by decide), strL_app, l66, lN, if_pos (by omega), strL_app, hget _ hf1 (by omega), Option.bind_some, hz, if_pos (by omega), if_pos (by rw [show ((⟨#[88, 88]⟩ : ByteArray).size : Int) = 2 from rfl, strL_size]; simp [B4]; omega)]
    rw [show (⟨#[88, 88]⟩ : ByteArray) = strL [88, 88] from rfl, strL_app, hXX, Option.bind_some, hN, Option.bind_some, if_neg (by decide), Option.bind_some, if_neg (by decide)]
    by_cases h0 : (c.Nodes.length : Int) = 0
    · rw [if_pos h0]
    · have hf2 : F4 ((c.Nodes.length : Int) - 1) := ⟨by omega, by omega⟩
      rw [if_neg h0, wr (by omega) (by omega), be_spec K hf2, Option.bind_some, lB, if_pos (by decide), strL_app, l66, if_pos (by omega), strL_app, hget _ hf2 (by omega), Option.bind_some, hN, Option.bind_some]
      rfl
theorem PackBack_holds (c : Cert) (s : ByteArray) (n : Int) (w : wfCert c) (m : muCert c ≤ 1048576) (_ : wfS s) (_ : muS s ≤ 1048576) (_ : wfI .i64 n) (_ : muI n ≤ 1048576) : ∃ K, templelaw18_PackBack K c s n = some true :=
  ⟨2000000, PackBack_true _ (by omega) c s n (PR_mu c m) (sm_wf c w) (PB_mu c m)⟩
theorem PackCounts_holds (c : Cert) (n : Int) (w : wfCert c) (m : muCert c ≤ 1048576) (_ : wfI .i64 n) (_ : muI n ≤ 1048576) : ∃ K, templelaw18_PackCounts K c n = some true :=
  ⟨2000000, PackCounts_true _ (by omega) c n (sm_wf c w) (PB_mu c m)⟩
end Go.Proofs.Ytokccimmgilciaa
