import Derived.Test.YtpjhcllohagjoaaGreatW10
namespace Go.Proofs.YtpjhcllohagjoaaGreat
open S
set_option linter.unusedVariables false
set_option maxRecDepth 100000
set_option maxHeartbeats 4000000
def Q3.l0 (K : Nat) (g_1 : Grammar) (cs_2 : (List Int)) : Nat → (J0 × ByteArray × Int) → Option ((J0 × ByteArray × Int) ⊕ Bool)
 | 0, _ => none
 | m + 1, (o_77, w_81, i_82) => if i_82 < (cs_2.length : Int) then if i_82 < 12 then (L6 K o_77).bind fun r_85 => (L8 K g_1 w_81).bind fun r_87 => if r_85 ≠ r_87 then some (.inr false) else (W7 K o_77).bind fun r_90 => if r_90 ≠ (w_81.size : Int) then some (.inr false) else if 0 ≤ i_82 then (P5 K o_77 (rd cs_2 i_82)).bind fun r_94 => if (rd cs_2 i_82) < 0 then (j4 K r_94.1).bind fun r_100 => if r_100 ≠ 1600 then some (.inr false) else Q3.l0 K g_1 cs_2 m (r_94.2, w_81, IntKind.wrap .i64 (i_82 + 1)) else if 255 < (rd cs_2 i_82) then (j4 K r_94.1).bind fun r_104 => if r_104 ≠ 1600 then some (.inr false) else Q3.l0 K g_1 cs_2 m (r_94.2, w_81, IntKind.wrap .i64 (i_82 + 1)) else if (w_81.size : Int) + ((strL ([IntKind.wrap .u8 (rd cs_2 i_82)] : List Int)).size : Int) ≤ 140737488355328 then (j4 K r_94.1).bind fun r_108 => if r_108 ≠ 0 then some (.inr false) else Q3.l0 K g_1 cs_2 m (r_94.2, w_81 ++ (strL ([IntKind.wrap .u8 (rd cs_2 i_82)] : List Int)), IntKind.wrap .i64 (i_82 + 1)) else none else none else some (.inl (o_77, w_81, i_82)) else some (.inl (o_77, w_81, i_82))
def Q3.l1 (K : Nat) (g_1 : Grammar) (cs_2 : (List Int)) : Nat → (J0 × ByteArray × Int) → Option ((J0 × ByteArray × Int) ⊕ Bool)
 | 0, _ => none
 | m + 1, (o_139, w_143, i_144) => if i_144 < (cs_2.length : Int) then if i_144 < 12 then (L6 K o_139).bind fun r_147 => (L8 K g_1 w_143).bind fun r_149 => if r_147 ≠ r_149 then some (.inr false) else (W7 K o_139).bind fun r_152 => if r_152 ≠ (w_143.size : Int) then some (.inr false) else if 0 ≤ i_144 then (P5 K o_139 (rd cs_2 i_144)).bind fun r_156 => if (rd cs_2 i_144) < 0 then (j4 K r_156.1).bind fun r_162 => if r_162 ≠ 1600 then some (.inr false) else Q3.l1 K g_1 cs_2 m (r_156.2, w_143, IntKind.wrap .i64 (i_144 + 1)) else if 255 < (rd cs_2 i_144) then (j4 K r_156.1).bind fun r_166 => if r_166 ≠ 1600 then some (.inr false) else Q3.l1 K g_1 cs_2 m (r_156.2, w_143, IntKind.wrap .i64 (i_144 + 1)) else if (w_143.size : Int) + ((strL ([IntKind.wrap .u8 (rd cs_2 i_144)] : List Int)).size : Int) ≤ 140737488355328 then (j4 K r_156.1).bind fun r_170 => if r_170 ≠ 0 then some (.inr false) else Q3.l1 K g_1 cs_2 m (r_156.2, w_143 ++ (strL ([IntKind.wrap .u8 (rd cs_2 i_144)] : List Int)), IntKind.wrap .i64 (i_144 + 1)) else none else none else some (.inl (o_139, w_143, i_144)) else some (.inl (o_139, w_143, i_144))
def Q3 (K : Nat) (g_1 : Grammar) (cs_2 : (List Int)) : Option Bool := (J3 K g_1).bind fun r_3 => (J9 K (⟨r_3.Start, r_3.Names, r_3.Rules⟩ : Grammar)).bind fun r_11 => (match r_11 with | (none, q_10) => (V1 K g_1 (⟨#[]⟩ : ByteArray)).bind fun r_15 => (match r_15 with | (none, q_14) => (c5 K (⟨r_3.Start, r_3.Names, r_3.Rules⟩ : Grammar) g_1).bind fun r_17 => if (!r_17) = true then some false else if q_14 ≠ 0 then ((j4 K q_10).bind fun r_23 => if r_23 = 1600 then (v8 K).bind fun r_26 => some r_26 else some false).bind fun t_21 => some t_21 else (j4 K q_10).bind fun r_28 => if r_28 ≠ 0 then some false else some false | (some x_13, q_14) => (c5 K (⟨r_3.Start, r_3.Names, r_3.Rules⟩ : Grammar) g_1).bind fun r_36 => if (!r_36) = true then some false else if q_14 ≠ 0 then ((j4 K q_10).bind fun r_42 => if r_42 = 1600 then (v8 K).bind fun r_45 => some r_45 else some false).bind fun t_40 => some t_40 else (j4 K q_10).bind fun r_47 => if r_47 ≠ 0 then some false else some false) | (some x_9, q_10) => (V1 K g_1 (⟨#[]⟩ : ByteArray)).bind fun r_62 => (match r_62 with | (none, q_61) => (c5 K (⟨r_3.Start, r_3.Names, r_3.Rules⟩ : Grammar) g_1).bind fun r_64 => if (!r_64) = true then some false else if q_61 ≠ 0 then ((j4 K q_10).bind fun r_69 => if r_69 = 1600 then some () else some ()).bind fun _ => some false else (j4 K q_10).bind fun r_72 => if r_72 ≠ 0 then some false else (P3 K (⟨r_3.Start, r_3.Names, r_3.Rules⟩ : Grammar)).bind fun r_75 => brk (Q3.l0 K g_1 cs_2 K (x_9, (⟨#[]⟩ : ByteArray), 0)) fun (o_77, w_81, i_82) => (L6 K o_77).bind fun r_111 => (L8 K g_1 w_81).bind fun r_113 => if r_111 = r_113 then (W7 K o_77).bind fun r_116 => if r_116 = (w_81.size : Int) then (v8 K).bind fun r_119 => some r_119 else some false else some false | (some x_60, q_61) => (c5 K (⟨r_3.Start, r_3.Names, r_3.Rules⟩ : Grammar) g_1).bind fun r_126 => if (!r_126) = true then some false else if q_61 ≠ 0 then ((j4 K q_10).bind fun r_131 => if r_131 = 1600 then some () else some ()).bind fun _ => some false else (j4 K q_10).bind fun r_134 => if r_134 ≠ 0 then some false else (P3 K (⟨r_3.Start, r_3.Names, r_3.Rules⟩ : Grammar)).bind fun r_137 => brk (Q3.l1 K g_1 cs_2 K (x_9, (⟨#[]⟩ : ByteArray), 0)) fun (o_139, w_143, i_144) => (L6 K o_139).bind fun r_173 => (L8 K g_1 w_143).bind fun r_175 => if r_173 = r_175 then (W7 K o_139).bind fun r_178 => if r_178 = (w_143.size : Int) then (v8 K).bind fun r_181 => some r_181 else some false else some false))
theorem zb (K : Nat) (g_1 : Grammar) (cs_2 : (List Int)) : Pure Tryz.prog 3 [.agg (cGrammar.e g_1), .fsl (cI .i64) cs_2] (Q3 K g_1 cs_2) (fun r => Ab r) := by
 refine spec_of' Tryz.func3 rfl Tryz.ntmps3 (le_ rfl) ?_
 refine sSR Y <| sQ (W8 (az := cGrammar.e g_1) Y cAgg) Y <| sA Y Y <| sES Y <| sQ (k8 g25 z25 Y (le_ Y)) Y <| L3 fun r_3 e_4 => L7 [] ent4 Y (Pb K _) e_4 Y (.s Y .nil) Y fun ⟨v_5, v_6, us_7⟩ => g7 (az := [Ai .i64 (0 : Int), .lit (.slice none 0 0), .lit (.slice none 0 0)]) al25 (fun _ _ => .cons Y (.cons Y (.cons Y .nil))) Y fun b_8 => m8 (j := 0) z25 Y Y Y cAgg ⟨(oLit Y), oSv, oSv, trivial⟩ Y (le_ Y) <| sES Y <| sQ (G9 (j := 0) g25 z25 Y Y (le_ Y)) Y <| L3 fun r_11 e_12 => ?_
 rcases r_11 with ⟨_ | x_9, q_10⟩
 ·refine Ve ent5 Y (m9 K _) e_12 (fun _ => flTup ⟨flLit, flLit, trivial⟩) (fun _ => trivial) (.g Y (lendA (.k (.o 1 Y (.x (lendG (D := J2) 2 Y) (.n))))) .nil) Y fun ⟨_, _, _, _, _, _, _, _⟩ => sM Y Y <| sQ (dX Y Y) Y <| sQ (dX Y Y) Y <| sA Y Y <| sA Y Y <| sES Y <| sQ (k8 g25 z25 Y (le_ Y)) Y <| L3 fun r_15 e_16 => ?_
  rcases r_15 with ⟨_ | x_13, q_14⟩
  ·refine L7 [] ent6 Y (M7 K _ _) e_16 Y (.s Y <| .s Y .nil) Y fun ⟨_, _, _⟩ => sM Y Y <| sQ (dX Y Y) Y <| sQ (dX Y Y) Y <| sA Y Y <| sA Y Y <| k0 <| W0 <| sSR Y <| sQ (G9 (j := 0) g25 z25 Y Y (le_ Y)) Y <| sQ (k8 g25 z25 Y (le_ Y)) Y <| L3 fun r_17 e_18 => sQ (Q7 ent7 (z8 K _ _) e_18 flLit (.g Y (lendA (.k (.o 1 Y (.x (lendG (D := J2) 2 Y) (.n))))) <| .s Y .nil)) Y <| sQ (ma Y) Y <| k0 <| w7 Y (fun h_19 => ?_) (fun h_19 => ?_)
   ·refine sSR Y <| sA Y Y <| k0 <| P1 [2, 1, 0] Tryz.func3 Tryz.results3 (rT Y) ⟨Y, Y⟩
   ·refine J1 <| W0 <| sSR Y <| sM Y Y <| sQ (dNe Y Y) Y <| k0 <| P2 Y (fun h_20 => ?_) (fun h_20 => ?_)
    ·refine W0 <| Pa (fun (t_21 : Bool) (_ : Unit) => ([(4, Ab t_21)] : Fr)) (fun (t_21 : Bool) (_ : Unit) => ([] : List Res)) ?_ ?_
     ·rintro t_21 _
      refine P1 [] Tryz.func3 Tryz.results3 (rT Y) ⟨Y, Y⟩
     ·intro join_21
      refine W2 Y <| sM Y Y <| L3 fun r_23 e_24 => sQ (G4 ent8 (j3 K _) e_24 (.s Y .nil)) Y <| sQ (dEq Y Y) Y <| sM Y Y <| G3 (fun h_25 => ?_) (fun h_25 => ?_)
      ·refine sG 3 Y Y Y (dT h_25) Y (dMv Y) Y <| sG 3 Y Y Y (dT h_25) Y (ge Tryz.underlying28 Y pnNil) Y <| sQ (M0 Y (dT h_25) Y) Y <| sM Y Y <| L3 fun r_26 e_27 => sG 7 Y Y Y Y Y (G4 ent9 (c9 K) e_27 (.nil)) Y <| sQ (M0 Y Y Y) Y <| sA Y Y <| k0 <| M1 (join_21 r_26 ()) [] ⟨Y, trivial⟩ Y
      ·refine sU 3 Y Y Y (dF h_25) Y Y <| sU 3 Y Y Y (dF h_25) Y Y <| sQ (L0 Y (dF h_25) Y) Y <| sM Y Y <| sU 7 Y Y Y Y Y Y <| sQ (L0 Y Y Y) Y <| sA Y Y <| k0 <| M1 (join_21 false ()) [] ⟨Y, trivial⟩ Y
    ·refine J1 <| W0 <| sSR Y <| sM Y Y <| L3 fun r_28 e_29 => sQ (G4 ent8 (j3 K _) e_29 (.s Y .nil)) Y <| sQ (dNe Y Y) Y <| sM Y Y <| G3 (fun h_30 => ?_) (fun h_30 => ?_)
     ·refine sU 3 Y Y Y (dT h_30) Y Y <| sU 3 Y Y Y (dT h_30) Y Y <| sQ (M0 Y (dT h_30) Y) Y <| k0 <| V4 Y Y <| sSR Y <| sA Y Y <| k0 <| P1 [2, 1, 0] Tryz.func3 Tryz.results3 (rT Y) ⟨Y, Y⟩
     ·refine sG 3 Y Y Y (dF h_30) Y (dMv Y) Y <| sG 3 Y Y Y (dF h_30) Y (ge Tryz.underlying28 Y pnNil) Y <| sQ (L0 Y (dF h_30) Y) Y <| k0 <| V4 Y Y <| sSR Y <| sA Y Y <| k0 <| P1 [2, 1, 0] Tryz.func3 Tryz.results3 (rT Y) ⟨Y, Y⟩
  ·refine L7 [] ent6 Y (M7 K _ _) e_16 Y (.s Y <| .s Y .nil) Y fun ⟨b_33, v_34, v_35⟩ => P9 (H' := [.box b_33 [Ai .i64 x_13.G.Start, .fsl cS x_13.G.Names, .fsl cRule x_13.G.Rules, .lit (.string x_13.W), Ai .i64 x_13.wide, .sv v_34, .fsl (cL (cI .i64)) x_13.conj, .sv v_35], .own 3 (cI .i64) v_34 x_13.names, .own 3 (cI .i64) v_35 x_13.rests, .box b_8 [Ai .i64 r_3.Start, .sv v_5, .sv v_6], .own 9 cS v_5 r_3.Names, .trg J2 v_6 r_3.Rules us_7 none]) Y <| sM Y Y <| sQ (dX Y Y) Y <| sQ (dX Y Y) Y <| sA Y Y <| sA Y Y <| k0 <| W0 <| sSR Y <| sQ (G9 (j := 3) g25 z25 Y Y (le_ Y)) Y <| sQ (k8 g25 z25 Y (le_ Y)) Y <| L3 fun r_36 e_37 => sQ (Q7 ent7 (z8 K _ _) e_37 flLit (.g Y (lendA (.k (.o 4 Y (.x (lendG (D := J2) 5 Y) (.n))))) <| .s Y .nil)) Y <| sQ (ma Y) Y <| k0 <| w7 Y (fun h_38 => ?_) (fun h_38 => ?_)
   ·refine sSR Y <| sA Y Y <| k0 <| sPk [] (H' := []) Y <| P1 [] Tryz.func3 Tryz.results3 (rT Y) ⟨Y, Y⟩
   ·refine J1 <| W0 <| sSR Y <| sM Y Y <| sQ (dNe Y Y) Y <| k0 <| P2 Y (fun h_39 => ?_) (fun h_39 => ?_)
    ·refine W0 <| Pa (fun (t_40 : Bool) (_ : Unit) => ([(4, Ab t_40)] : Fr)) (fun (t_40 : Bool) (_ : Unit) => ([] : List Res)) ?_ ?_
     ·rintro t_40 _
      refine P1 [] Tryz.func3 Tryz.results3 (rT Y) ⟨Y, Y⟩
     ·intro join_40
      refine W2 Y <| sM Y Y <| L3 fun r_42 e_43 => sQ (G4 ent8 (j3 K _) e_43 (.s Y .nil)) Y <| sQ (dEq Y Y) Y <| sM Y Y <| G3 (fun h_44 => ?_) (fun h_44 => ?_)
      ·refine sG 3 Y Y Y (dT h_44) Y (dMv Y) Y <| sG 3 Y Y Y (dT h_44) Y (ge Tryz.underlying28 Y pnNil) Y <| sQ (M0 Y (dT h_44) Y) Y <| sM Y Y <| L3 fun r_45 e_46 => sG 7 Y Y Y Y Y (G4 ent9 (c9 K) e_46 (.nil)) Y <| sQ (M0 Y Y Y) Y <| sA Y Y <| k0 <| M1 (join_40 r_45 ()) [] ⟨Y, trivial⟩ Y
      ·refine sU 3 Y Y Y (dF h_44) Y Y <| sU 3 Y Y Y (dF h_44) Y Y <| sQ (L0 Y (dF h_44) Y) Y <| sM Y Y <| sU 7 Y Y Y Y Y Y <| sQ (L0 Y Y Y) Y <| sA Y Y <| k0 <| M1 (join_40 false ()) [] ⟨Y, trivial⟩ Y
    ·refine J1 <| W0 <| sSR Y <| sM Y Y <| L3 fun r_47 e_48 => sQ (G4 ent8 (j3 K _) e_48 (.s Y .nil)) Y <| sQ (dNe Y Y) Y <| sM Y Y <| G3 (fun h_49 => ?_) (fun h_49 => ?_)
     ·refine sU 3 Y Y Y (dT h_49) Y Y <| sU 3 Y Y Y (dT h_49) Y Y <| sQ (M0 Y (dT h_49) Y) Y <| k0 <| V4 Y Y <| sSR Y <| sA Y Y <| k0 <| sPk [] (H' := []) Y <| P1 [] Tryz.func3 Tryz.results3 (rT Y) ⟨Y, Y⟩
     ·refine sG 3 Y Y Y (dF h_49) Y (dMv Y) Y <| sG 3 Y Y Y (dF h_49) Y (ge Tryz.underlying28 Y pnNil) Y <| sQ (L0 Y (dF h_49) Y) Y <| k0 <| V4 Y Y <| sSR Y <| sA Y Y <| k0 <| sPk [] (H' := []) Y <| P1 [] Tryz.func3 Tryz.results3 (rT Y) ⟨Y, Y⟩
 ·refine Ve ent5 Y (m9 K _) e_12 (fun _ => flTup ⟨flLit, flLit, trivial⟩) (fun _ => ⟨flBox ⟨flLit, flSv, flSv, flSv, flSv, flSv, trivial⟩, flOwn (c := cS) (fun _ => ⟨flLit, trivial⟩), Lg, flOwn (c := (cI .i64)) (fun _ => ⟨flLit, trivial⟩), flOwn (c := (cI .u8)) (fun _ => ⟨flLit, trivial⟩), bf, trivial⟩) (.g Y (lendA (.k (.o 1 Y (.x (lendG (D := J2) 2 Y) (.n))))) .nil) Y fun ⟨b_52, v_53, v_54, us_55, v_56, v_57, v_58, us_59⟩ => P9 (H' := [.box b_52 [Ai .i64 x_9.g.Start, .sv v_53, .sv v_54, .sv v_56, .sv v_57, .sv v_58], .own 9 cS v_53 x_9.g.Names, .trg J2 v_54 x_9.g.Rules us_55 none, .own 3 (cI .i64) v_56 x_9.levels, .own 5 (cI .u8) v_57 x_9.w, .trg V0 v_58 x_9.sets us_59 none, .box b_8 [Ai .i64 r_3.Start, .sv v_5, .sv v_6], .own 9 cS v_5 r_3.Names, .trg J2 v_6 r_3.Rules us_7 none]) Y <| sM Y Y <| sQ (dX Y Y) Y <| sQ (dX Y Y) Y <| sA Y Y <| sA Y Y <| sES Y <| sQ (k8 g25 z25 Y (le_ Y)) Y <| L3 fun r_62 e_63 => ?_
  rcases r_62 with ⟨_ | x_60, q_61⟩
  ·refine L7 [] ent6 Y (M7 K _ _) e_63 Y (.s Y <| .s Y .nil) Y fun ⟨_, _, _⟩ => sM Y Y <| sQ (dX Y Y) Y <| sQ (dX Y Y) Y <| sA Y Y <| sA Y Y <| k0 <| W0 <| sSR Y <| sQ (G9 (j := 6) g25 z25 Y Y (le_ Y)) Y <| sQ (k8 g25 z25 Y (le_ Y)) Y <| L3 fun r_64 e_65 => sQ (Q7 ent7 (z8 K _ _) e_65 flLit (.g Y (lendA (.k (.o 7 Y (.x (lendG (D := J2) 8 Y) (.n))))) <| .s Y .nil)) Y <| sQ (ma Y) Y <| k0 <| w7 Y (fun h_66 => ?_) (fun h_66 => ?_)
   ·refine sSR Y <| sA Y Y <| k0 <| sPk [] (H' := []) Y <| P1 [] Tryz.func3 Tryz.results3 (rT Y) ⟨Y, Y⟩
   ·refine J1 <| W0 <| sSR Y <| sM Y Y <| sQ (dNe Y Y) Y <| k0 <| P2 Y (fun h_67 => ?_) (fun h_67 => ?_)
    ·refine W0 <| Pa (fun (_ : Unit) (_ : Unit) => ([(4, Ab false)] : Fr)) (fun (_ : Unit) (_ : Unit) => ([] : List Res)) ?_ ?_
     ·rintro _ _
      refine P1 [] Tryz.func3 Tryz.results3 (rT Y) ⟨Y, Y⟩
     ·intro join_67
      refine W2 Y <| sM Y Y <| L3 fun r_69 e_70 => sQ (G4 ent8 (j3 K _) e_70 (.s Y .nil)) Y <| sQ (dEq Y Y) Y <| sM Y Y <| G3 (fun h_71 => ?_) (fun h_71 => ?_)
      ·refine sG 3 Y Y Y (dT h_71) Y (dMv Y) Y <| sG 3 Y Y Y (dT h_71) Y (ge Tryz.underlying28 Y pnBox) Y <| sQ (M0 Y (dT h_71) Y) Y <| sM Y Y <| sU 7 Y Y Y Y Y Y <| sQ (L0 Y Y Y) Y <| sA Y Y <| k0 <| M1 (join_67 () ()) [] ⟨Y, trivial⟩ Y
      ·refine sU 3 Y Y Y (dF h_71) Y Y <| sU 3 Y Y Y (dF h_71) Y Y <| sQ (L0 Y (dF h_71) Y) Y <| sM Y Y <| sU 7 Y Y Y Y Y Y <| sQ (L0 Y Y Y) Y <| sA Y Y <| k0 <| M1 (join_67 () ()) [] ⟨Y, trivial⟩ Y
    ·refine J1 <| W0 <| sSR Y <| sM Y Y <| L3 fun r_72 e_73 => sQ (G4 ent8 (j3 K _) e_73 (.s Y .nil)) Y <| sQ (dNe Y Y) Y <| sM Y Y <| G3 (fun h_74 => ?_) (fun h_74 => ?_)
     ·refine sU 3 Y Y Y (dT h_74) Y Y <| sU 3 Y Y Y (dT h_74) Y Y <| sQ (M0 Y (dT h_74) Y) Y <| k0 <| V4 Y Y <| sSR Y <| sA Y Y <| k0 <| sPk [] (H' := []) Y <| P1 [] Tryz.func3 Tryz.results3 (rT Y) ⟨Y, Y⟩
     ·refine sG 3 Y Y Y (dF h_74) Y (dMv Y) Y <| sG 3 Y Y Y (dF h_74) Y (ge Tryz.underlying28 Y pnBox) Y <| sQ (L0 Y (dF h_74) Y) Y <| k0 <| J7 Y Y <| J1 <| sSR Y <| sQ (G9 (j := 6) g25 z25 Y Y (le_ Y)) Y <| L3 fun r_75 e_76 => L7 [7, 7] ent10 Y (ga K _ _ _ _) e_76 Y (.s Y .nil) Y fun _ => sES Y <| sA Y Y <| k0 <| W0 <| sSR Y <| sA Y Y <| k0 <| wa (Q3.l0 K g_1 cs_2) (fun ((o_77, w_81, i_82) : (J0 × ByteArray × Int)) (g_ : (Value × Value × List (Value × (Value × List (Value × List Value))))) => ([(1, .fsl (cI .i64) cs_2), (2, .fptr ((cGrammar.e g_1))), (6, .lit (.pointer (some ⟨b_52, 0, none⟩))), (10, .lit (.string w_81)), (11, Ai .i64 i_82)] : Fr)) (fun ((o_77, w_81, i_82) : (J0 × ByteArray × Int)) (g_ : (Value × Value × List (Value × (Value × List (Value × List Value))))) => ([.box b_52 [Ai .i64 o_77.g.Start, .sv v_53, .sv v_54, .sv v_56, .sv g_.1, .sv g_.2.1], .own 9 cS v_53 o_77.g.Names, .trg J2 v_54 o_77.g.Rules us_55 none, .own 3 (cI .i64) v_56 o_77.levels, .own 5 (cI .u8) g_.1 o_77.w, .trg V0 g_.2.1 o_77.sets g_.2.2 none] : List Res)) (v_57, v_58, us_59) (fun _ => Y) [8, 1, 0] ⟨Y, Y, Y, Y, Y, trivial⟩ Y ?_ ?_
      ·rintro ⟨o_77, w_81, i_82⟩ ⟨v_78, v_79, us_80⟩
       refine W0 <| f9 fun r_111 e_112 => f9 fun r_113 e_114 => fa (fun h_115 => ?_) (fun h_115 => ?_)
       ·refine f9 fun r_116 e_117 => fa (fun h_118 => ?_) (fun h_118 => ?_)
        ·refine f9 fun r_119 e_120 => c6 17 mixed Y (by kernel_rfl) (by kernel_rfl) (by kernel_rfl) (.m Y Y <| .r (Q7 ent11 (Q5 K _) e_112 flLit (.g Y (lendB 0 Y (.k (.o 1 Y (.x (lendG (D := J2) 2 Y) (.o 3 Y (.o 4 Y (.x (lendG (D := V0) 5 Y) (.n)))))))) .nil)) Y <| .r (k8 g25 z25 Y (le_ Y)) Y <| .m Y Y <| .r (G4 ent12 (P7 K _ _) e_114 (.s Y <| .s Y .nil)) Y <| .r (mf Tryz.underlying4 Y Y) Y <| .m Y Y <| .g 6 Y Y Y (dT h_115) Y (dMv Y) Y <| .g 6 Y Y Y (dT h_115) Y (Q7 ent13 (G7 K _) e_117 flLit (.g Y (lendB 0 Y (.k (.o 1 Y (.x (lendG (D := J2) 2 Y) (.o 3 Y (.o 4 Y (.x (lendG (D := V0) 5 Y) (.n)))))))) .nil)) Y <| .g 6 Y Y Y (dT h_115) Y (dMv Y) Y <| .g 6 Y Y Y (dT h_115) Y (za Tryz.underlying9 Y) Y <| .g 6 Y Y Y (dT h_115) Y (dEq Y Y) Y <| .r (M0 Y (dT h_115) Y) Y <| .m Y Y <| .g 13 Y Y Y (dT h_118) Y (G4 ent9 (c9 K) e_120 (.nil)) Y <| .r (M0 Y (dT h_118) Y) Y <| .r (dAs Y) Y .n) Y <| k0 <| sPk [] (H' := []) Y <| P1 [] Tryz.func3 Tryz.results3 (rT Y) ⟨Y, Y⟩
        ·refine c6 17 mixed Y (by kernel_rfl) (by kernel_rfl) (by kernel_rfl) (.m Y Y <| .r (Q7 ent11 (Q5 K _) e_112 flLit (.g Y (lendB 0 Y (.k (.o 1 Y (.x (lendG (D := J2) 2 Y) (.o 3 Y (.o 4 Y (.x (lendG (D := V0) 5 Y) (.n)))))))) .nil)) Y <| .r (k8 g25 z25 Y (le_ Y)) Y <| .m Y Y <| .r (G4 ent12 (P7 K _ _) e_114 (.s Y <| .s Y .nil)) Y <| .r (mf Tryz.underlying4 Y Y) Y <| .m Y Y <| .g 6 Y Y Y (dT h_115) Y (dMv Y) Y <| .g 6 Y Y Y (dT h_115) Y (Q7 ent13 (G7 K _) e_117 flLit (.g Y (lendB 0 Y (.k (.o 1 Y (.x (lendG (D := J2) 2 Y) (.o 3 Y (.o 4 Y (.x (lendG (D := V0) 5 Y) (.n)))))))) .nil)) Y <| .g 6 Y Y Y (dT h_115) Y (dMv Y) Y <| .g 6 Y Y Y (dT h_115) Y (za Tryz.underlying9 Y) Y <| .g 6 Y Y Y (dT h_115) Y (dEq Y Y) Y <| .r (M0 Y (dT h_115) Y) Y <| .m Y Y <| .w 13 Y Y Y (dF h_118) Y Y <| .r (L0 Y (dF h_118) Y) Y <| .r (dAs Y) Y .n) Y <| k0 <| sPk [] (H' := []) Y <| P1 [] Tryz.func3 Tryz.results3 (rT Y) ⟨Y, Y⟩
       ·refine c6 17 mixed Y (by kernel_rfl) (by kernel_rfl) (by kernel_rfl) (.m Y Y <| .r (Q7 ent11 (Q5 K _) e_112 flLit (.g Y (lendB 0 Y (.k (.o 1 Y (.x (lendG (D := J2) 2 Y) (.o 3 Y (.o 4 Y (.x (lendG (D := V0) 5 Y) (.n)))))))) .nil)) Y <| .r (k8 g25 z25 Y (le_ Y)) Y <| .m Y Y <| .r (G4 ent12 (P7 K _ _) e_114 (.s Y <| .s Y .nil)) Y <| .r (mf Tryz.underlying4 Y Y) Y <| .m Y Y <| .w 6 Y Y Y (dF h_115) Y Y <| .w 6 Y Y Y (dF h_115) Y Y <| .w 6 Y Y Y (dF h_115) Y Y <| .w 6 Y Y Y (dF h_115) Y Y <| .w 6 Y Y Y (dF h_115) Y Y <| .r (L0 Y (dF h_115) Y) Y <| .m Y Y <| .w 13 Y Y Y Y Y Y <| .r (L0 Y Y Y) Y <| .r (dAs Y) Y .n) Y <| k0 <| sPk [] (H' := []) Y <| P1 [] Tryz.func3 Tryz.results3 (rT Y) ⟨Y, Y⟩
      ·rintro m ⟨o_77, w_81, i_82⟩ ⟨v_78, v_79, us_80⟩ again_0 out_0
       refine W0 <| sSR Y <| sM Y Y <| sM Y Y <| sQ (P6 Tryz.underlying26 Y) Y <| sQ (dLt Y Y) Y <| sM Y Y <| G3 (fun h_83 => ?_) (fun h_83 => ?_)
       ·refine sG 4 Y Y Y (dT h_83) Y (dMv Y) Y <| sG 4 Y Y Y (dT h_83) Y (dLt Y Y) Y <| sQ (M0 Y (dT h_83) Y) Y <| k0 <| P2 Y (fun h_84 => ?_) (fun h_84 => ?_)
        ·refine J1 <| W0 <| V6 <| W0 <| W0 <| f9 fun r_85 e_86 => f9 fun r_87 e_88 => fa (fun h_89 => ?_) (fun h_89 => ?_)
         ·refine c6 13 mixed Y (by kernel_rfl) (by kernel_rfl) (by kernel_rfl) (.m Y Y <| .r (Q7 ent11 (Q5 K _) e_86 flLit (.g Y (lendB 0 Y (.k (.o 1 Y (.x (lendG (D := J2) 2 Y) (.o 3 Y (.o 4 Y (.x (lendG (D := V0) 5 Y) (.n)))))))) .nil)) Y <| .r (k8 g25 z25 Y (le_ Y)) Y <| .m Y Y <| .r (G4 ent12 (P7 K _ _) e_88 (.s Y <| .s Y .nil)) Y <| .r (rg Tryz.underlying4 Y Y) Y <| .m Y Y <| .w 6 Y Y Y (dT h_89) Y Y <| .w 6 Y Y Y (dT h_89) Y Y <| .w 6 Y Y Y (dT h_89) Y Y <| .w 6 Y Y Y (dT h_89) Y Y <| .w 6 Y Y Y (dT h_89) Y Y <| .r (M0 Y (dT h_89) Y) Y .n) Y <| k0 <| V4 Y Y <| sSR Y <| sA Y Y <| k0 <| r8 <| sPk [] (H' := []) Y <| P1 [] Tryz.func3 Tryz.results3 (rT Y) ⟨Y, Y⟩
         ·refine f9 fun r_90 e_91 => c6 13 mixed Y (by kernel_rfl) (by kernel_rfl) (by kernel_rfl) (.m Y Y <| .r (Q7 ent11 (Q5 K _) e_86 flLit (.g Y (lendB 0 Y (.k (.o 1 Y (.x (lendG (D := J2) 2 Y) (.o 3 Y (.o 4 Y (.x (lendG (D := V0) 5 Y) (.n)))))))) .nil)) Y <| .r (k8 g25 z25 Y (le_ Y)) Y <| .m Y Y <| .r (G4 ent12 (P7 K _ _) e_88 (.s Y <| .s Y .nil)) Y <| .r (rg Tryz.underlying4 Y Y) Y <| .m Y Y <| .g 6 Y Y Y (dF h_89) Y (dMv Y) Y <| .g 6 Y Y Y (dF h_89) Y (Q7 ent13 (G7 K _) e_91 flLit (.g Y (lendB 0 Y (.k (.o 1 Y (.x (lendG (D := J2) 2 Y) (.o 3 Y (.o 4 Y (.x (lendG (D := V0) 5 Y) (.n)))))))) .nil)) Y <| .g 6 Y Y Y (dF h_89) Y (dMv Y) Y <| .g 6 Y Y Y (dF h_89) Y (za Tryz.underlying9 Y) Y <| .g 6 Y Y Y (dF h_89) Y (dNe Y Y) Y <| .r (L0 Y (dF h_89) Y) Y .n) Y <| k0 <| P2 Y (fun h_92 => ?_) (fun h_92 => ?_)
          ·refine sSR Y <| sA Y Y <| k0 <| r8 <| sPk [] (H' := []) Y <| P1 [] Tryz.func3 Tryz.results3 (rT Y) ⟨Y, Y⟩
          ·refine J1 <| sSR Y <| sM Y Y <| sM Y Y <| sM Y Y <| M4 fun h_93 => sQ (dIx Tryz.underlying26 z3 Y Y h_93 h_83) Y <| sQ (dLd g3 Y Y) Y <| L3 fun r_94 e_95 => L7 [0, 0, 0, 0, 0, 0] ent14 Y (y7 K _ _ _ _ _ _ _ _ _ _) e_95 Y (.s Y <| .s Y .nil) Y fun ⟨v_96, v_97, us_98⟩ => P9 (H' := [.box b_52 [Ai .i64 r_94.2.g.Start, .sv v_53, .sv v_54, .sv v_56, .sv v_96, .sv v_97], .own 9 cS v_53 r_94.2.g.Names, .trg J2 v_54 r_94.2.g.Rules us_55 none, .own 3 (cI .i64) v_56 r_94.2.levels, .own 5 (cI .u8) v_96 r_94.2.w, .trg V0 v_97 r_94.2.sets us_98 none]) Y <| sA Y Y <| k0 <| W0 <| sSR Y <| sM Y Y <| sM Y Y <| sQ (dIx Tryz.underlying26 z3 Y Y h_93 h_83) Y <| sQ (dLd g3 Y Y) Y <| sQ (dLt Y Y) Y <| sM Y Y <| G3 (fun h_99 => ?_) (fun h_99 => ?_)
           ·refine sU 5 Y Y Y (dT h_99) Y Y <| sU 5 Y Y Y (dT h_99) Y Y <| sU 5 Y Y Y (dT h_99) Y Y <| sU 5 Y Y Y (dT h_99) Y Y <| sU 5 Y Y Y (dT h_99) Y Y <| sQ (M0 Y (dT h_99) Y) Y <| k0 <| V4 Y Y <| W0 <| sSR Y <| sM Y Y <| L3 fun r_100 e_101 => sQ (G4 ent8 (j3 K _) e_101 (.s Y .nil)) Y <| sQ (dNe Y Y) Y <| k0 <| P2 Y (fun h_102 => ?_) (fun h_102 => ?_)
            ·refine sSR Y <| sA Y Y <| k0 <| r8 <| sPk [] (H' := []) Y <| P1 [] Tryz.func3 Tryz.results3 (rT Y) ⟨Y, Y⟩
            ·refine J1 <| J4 Y <| W2 Y <| sM Y Y <| sQ (m4 Y Y) Y <| sA Y Y <| k0 <| M1 (again_0 (r_94.2, w_81, IntKind.wrap .i64 (i_82 + 1)) (v_96, v_97, us_98)) [0, 0, 0, 0, 0, 0] ⟨Y, Y, Y, Y, Y, trivial⟩ Y
           ·refine sG 5 Y Y Y (dF h_99) Y (dMv Y) Y <| sG 5 Y Y Y (dF h_99) Y (dMv Y) Y <| sG 5 Y Y Y (dF h_99) Y (dIx Tryz.underlying26 z3 Y Y h_93 h_83) Y <| sG 5 Y Y Y (dF h_99) Y (dLd g3 Y Y) Y <| sG 5 Y Y Y (dF h_99) Y (dGt Y Y) Y <| sQ (L0 Y (dF h_99) Y) Y <| k0 <| P2 Y (fun h_103 => ?_) (fun h_103 => ?_)
            ·refine W0 <| sSR Y <| sM Y Y <| L3 fun r_104 e_105 => sQ (G4 ent8 (j3 K _) e_105 (.s Y .nil)) Y <| sQ (dNe Y Y) Y <| k0 <| P2 Y (fun h_106 => ?_) (fun h_106 => ?_)
             ·refine sSR Y <| sA Y Y <| k0 <| r8 <| sPk [] (H' := []) Y <| P1 [] Tryz.func3 Tryz.results3 (rT Y) ⟨Y, Y⟩
             ·refine J1 <| J4 Y <| W2 Y <| sM Y Y <| sQ (m4 Y Y) Y <| sA Y Y <| k0 <| M1 (again_0 (r_94.2, w_81, IntKind.wrap .i64 (i_82 + 1)) (v_96, v_97, us_98)) [0, 0, 0, 0, 0, 0] ⟨Y, Y, Y, Y, Y, trivial⟩ Y
            ·refine J1 <| sSR Y <| sM Y Y <| sM Y Y <| sM Y Y <| sQ (dIx Tryz.underlying26 z3 Y Y h_93 h_83) Y <| sQ (dLd g3 Y Y) Y <| sQ (Gb Tryz.underlying3 Tryz.underlying5 Y) Y <| sQ (dBS (c := (cI .u8)) (xs := ([IntKind.wrap .u8 (rd cs_2 i_82)] : List Int)) Tryz.underlying42 z5 mg (.c Y (cOne (oLit Y)) .nil) Y) Y <| sQ (gj Tryz.underlying42 Tryz.underlying5 Tryz.underlying9 Y) Y <| M4 fun h_107 => sQ (gi h_107 Y Y) Y <| sA Y Y <| sES Y <| sM Y Y <| L3 fun r_108 e_109 => sQ (G4 ent8 (j3 K _) e_109 (.s Y .nil)) Y <| sQ (dNe Y Y) Y <| k0 <| P2 Y (fun h_110 => ?_) (fun h_110 => ?_)
             ·refine sSR Y <| sA Y Y <| k0 <| r8 <| sPk [] (H' := []) Y <| P1 [] Tryz.func3 Tryz.results3 (rT Y) ⟨Y, Y⟩
             ·refine J1 <| L1 <| W2 Y <| sM Y Y <| sQ (m4 Y Y) Y <| sA Y Y <| k0 <| M1 (again_0 (r_94.2, w_81 ++ (strL ([IntKind.wrap .u8 (rd cs_2 i_82)] : List Int)), IntKind.wrap .i64 (i_82 + 1)) (v_96, v_97, us_98)) [0, 0, 0, 0, 0, 0] ⟨Y, Y, Y, Y, Y, trivial⟩ Y
        ·refine J4 Y <| M1 (out_0 (o_77, w_81, i_82) (v_78, v_79, us_80)) [0, 0, 0, 0, 0, 0] ⟨Y, Y, Y, Y, Y, trivial⟩ Y
       ·refine sU 4 Y Y Y (dF h_83) Y Y <| sU 4 Y Y Y (dF h_83) Y Y <| sQ (L0 Y (dF h_83) Y) Y <| k0 <| J7 Y Y <| J4 Y <| M1 (out_0 (o_77, w_81, i_82) (v_78, v_79, us_80)) [0, 0, 0, 0, 0, 0] ⟨Y, Y, Y, Y, Y, trivial⟩ Y
  ·refine L7 [] ent6 Y (M7 K _ _) e_63 Y (.s Y <| .s Y .nil) Y fun ⟨b_123, v_124, v_125⟩ => P9 (H' := [.box b_123 [Ai .i64 x_60.G.Start, .fsl cS x_60.G.Names, .fsl cRule x_60.G.Rules, .lit (.string x_60.W), Ai .i64 x_60.wide, .sv v_124, .fsl (cL (cI .i64)) x_60.conj, .sv v_125], .own 3 (cI .i64) v_124 x_60.names, .own 3 (cI .i64) v_125 x_60.rests, .box b_52 [Ai .i64 x_9.g.Start, .sv v_53, .sv v_54, .sv v_56, .sv v_57, .sv v_58], .own 9 cS v_53 x_9.g.Names, .trg J2 v_54 x_9.g.Rules us_55 none, .own 3 (cI .i64) v_56 x_9.levels, .own 5 (cI .u8) v_57 x_9.w, .trg V0 v_58 x_9.sets us_59 none, .box b_8 [Ai .i64 r_3.Start, .sv v_5, .sv v_6], .own 9 cS v_5 r_3.Names, .trg J2 v_6 r_3.Rules us_7 none]) Y <| sM Y Y <| sQ (dX Y Y) Y <| sQ (dX Y Y) Y <| sA Y Y <| sA Y Y <| k0 <| W0 <| sSR Y <| sQ (G9 (j := 9) g25 z25 Y Y (le_ Y)) Y <| sQ (k8 g25 z25 Y (le_ Y)) Y <| L3 fun r_126 e_127 => sQ (Q7 ent7 (z8 K _ _) e_127 flLit (.g Y (lendA (.k (.o 10 Y (.x (lendG (D := J2) 11 Y) (.n))))) <| .s Y .nil)) Y <| sQ (ma Y) Y <| k0 <| w7 Y (fun h_128 => ?_) (fun h_128 => ?_)
   ·refine sSR Y <| sA Y Y <| k0 <| sPk [] (H' := []) Y <| P1 [] Tryz.func3 Tryz.results3 (rT Y) ⟨Y, Y⟩
   ·refine J1 <| W0 <| sSR Y <| sM Y Y <| sQ (dNe Y Y) Y <| k0 <| P2 Y (fun h_129 => ?_) (fun h_129 => ?_)
    ·refine W0 <| Pa (fun (_ : Unit) (_ : Unit) => ([(4, Ab false)] : Fr)) (fun (_ : Unit) (_ : Unit) => ([] : List Res)) ?_ ?_
     ·rintro _ _
      refine P1 [] Tryz.func3 Tryz.results3 (rT Y) ⟨Y, Y⟩
     ·intro join_129
      refine W2 Y <| sM Y Y <| L3 fun r_131 e_132 => sQ (G4 ent8 (j3 K _) e_132 (.s Y .nil)) Y <| sQ (dEq Y Y) Y <| sM Y Y <| G3 (fun h_133 => ?_) (fun h_133 => ?_)
      ·refine sG 3 Y Y Y (dT h_133) Y (dMv Y) Y <| sG 3 Y Y Y (dT h_133) Y (ge Tryz.underlying28 Y pnBox) Y <| sQ (M0 Y (dT h_133) Y) Y <| sM Y Y <| sU 7 Y Y Y Y Y Y <| sQ (L0 Y Y Y) Y <| sA Y Y <| k0 <| M1 (join_129 () ()) [] ⟨Y, trivial⟩ Y
      ·refine sU 3 Y Y Y (dF h_133) Y Y <| sU 3 Y Y Y (dF h_133) Y Y <| sQ (L0 Y (dF h_133) Y) Y <| sM Y Y <| sU 7 Y Y Y Y Y Y <| sQ (L0 Y Y Y) Y <| sA Y Y <| k0 <| M1 (join_129 () ()) [] ⟨Y, trivial⟩ Y
    ·refine J1 <| W0 <| sSR Y <| sM Y Y <| L3 fun r_134 e_135 => sQ (G4 ent8 (j3 K _) e_135 (.s Y .nil)) Y <| sQ (dNe Y Y) Y <| sM Y Y <| G3 (fun h_136 => ?_) (fun h_136 => ?_)
     ·refine sU 3 Y Y Y (dT h_136) Y Y <| sU 3 Y Y Y (dT h_136) Y Y <| sQ (M0 Y (dT h_136) Y) Y <| k0 <| V4 Y Y <| sSR Y <| sA Y Y <| k0 <| sPk [] (H' := []) Y <| P1 [] Tryz.func3 Tryz.results3 (rT Y) ⟨Y, Y⟩
     ·refine sG 3 Y Y Y (dF h_136) Y (dMv Y) Y <| sG 3 Y Y Y (dF h_136) Y (ge Tryz.underlying28 Y pnBox) Y <| sQ (L0 Y (dF h_136) Y) Y <| k0 <| J7 Y Y <| J1 <| sSR Y <| sQ (G9 (j := 9) g25 z25 Y Y (le_ Y)) Y <| L3 fun r_137 e_138 => L7 [10, 10] ent10 Y (ga K _ _ _ _) e_138 Y (.s Y .nil) Y fun _ => sES Y <| sA Y Y <| k0 <| W0 <| sSR Y <| sA Y Y <| k0 <| wa (Q3.l1 K g_1 cs_2) (fun ((o_139, w_143, i_144) : (J0 × ByteArray × Int)) (g_ : (Value × Value × List (Value × (Value × List (Value × List Value))))) => ([(1, .fsl (cI .i64) cs_2), (2, .fptr ((cGrammar.e g_1))), (6, .lit (.pointer (some ⟨b_52, 0, none⟩))), (10, .lit (.string w_143)), (11, Ai .i64 i_144)] : Fr)) (fun ((o_139, w_143, i_144) : (J0 × ByteArray × Int)) (g_ : (Value × Value × List (Value × (Value × List (Value × List Value))))) => ([.box b_52 [Ai .i64 o_139.g.Start, .sv v_53, .sv v_54, .sv v_56, .sv g_.1, .sv g_.2.1], .own 9 cS v_53 o_139.g.Names, .trg J2 v_54 o_139.g.Rules us_55 none, .own 3 (cI .i64) v_56 o_139.levels, .own 5 (cI .u8) g_.1 o_139.w, .trg V0 g_.2.1 o_139.sets g_.2.2 none] : List Res)) (v_57, v_58, us_59) (fun _ => Y) [11, 4, 3, 2, 1, 0] ⟨Y, Y, Y, Y, Y, trivial⟩ Y ?_ ?_
      ·rintro ⟨o_139, w_143, i_144⟩ ⟨v_140, v_141, us_142⟩
       refine W0 <| f9 fun r_173 e_174 => f9 fun r_175 e_176 => fa (fun h_177 => ?_) (fun h_177 => ?_)
       ·refine f9 fun r_178 e_179 => fa (fun h_180 => ?_) (fun h_180 => ?_)
        ·refine f9 fun r_181 e_182 => c6 17 mixed Y (by kernel_rfl) (by kernel_rfl) (by kernel_rfl) (.m Y Y <| .r (Q7 ent11 (Q5 K _) e_174 flLit (.g Y (lendB 0 Y (.k (.o 1 Y (.x (lendG (D := J2) 2 Y) (.o 3 Y (.o 4 Y (.x (lendG (D := V0) 5 Y) (.n)))))))) .nil)) Y <| .r (k8 g25 z25 Y (le_ Y)) Y <| .m Y Y <| .r (G4 ent12 (P7 K _ _) e_176 (.s Y <| .s Y .nil)) Y <| .r (mf Tryz.underlying4 Y Y) Y <| .m Y Y <| .g 6 Y Y Y (dT h_177) Y (dMv Y) Y <| .g 6 Y Y Y (dT h_177) Y (Q7 ent13 (G7 K _) e_179 flLit (.g Y (lendB 0 Y (.k (.o 1 Y (.x (lendG (D := J2) 2 Y) (.o 3 Y (.o 4 Y (.x (lendG (D := V0) 5 Y) (.n)))))))) .nil)) Y <| .g 6 Y Y Y (dT h_177) Y (dMv Y) Y <| .g 6 Y Y Y (dT h_177) Y (za Tryz.underlying9 Y) Y <| .g 6 Y Y Y (dT h_177) Y (dEq Y Y) Y <| .r (M0 Y (dT h_177) Y) Y <| .m Y Y <| .g 13 Y Y Y (dT h_180) Y (G4 ent9 (c9 K) e_182 (.nil)) Y <| .r (M0 Y (dT h_180) Y) Y <| .r (dAs Y) Y .n) Y <| k0 <| sPk [] (H' := []) Y <| P1 [] Tryz.func3 Tryz.results3 (rT Y) ⟨Y, Y⟩
        ·refine c6 17 mixed Y (by kernel_rfl) (by kernel_rfl) (by kernel_rfl) (.m Y Y <| .r (Q7 ent11 (Q5 K _) e_174 flLit (.g Y (lendB 0 Y (.k (.o 1 Y (.x (lendG (D := J2) 2 Y) (.o 3 Y (.o 4 Y (.x (lendG (D := V0) 5 Y) (.n)))))))) .nil)) Y <| .r (k8 g25 z25 Y (le_ Y)) Y <| .m Y Y <| .r (G4 ent12 (P7 K _ _) e_176 (.s Y <| .s Y .nil)) Y <| .r (mf Tryz.underlying4 Y Y) Y <| .m Y Y <| .g 6 Y Y Y (dT h_177) Y (dMv Y) Y <| .g 6 Y Y Y (dT h_177) Y (Q7 ent13 (G7 K _) e_179 flLit (.g Y (lendB 0 Y (.k (.o 1 Y (.x (lendG (D := J2) 2 Y) (.o 3 Y (.o 4 Y (.x (lendG (D := V0) 5 Y) (.n)))))))) .nil)) Y <| .g 6 Y Y Y (dT h_177) Y (dMv Y) Y <| .g 6 Y Y Y (dT h_177) Y (za Tryz.underlying9 Y) Y <| .g 6 Y Y Y (dT h_177) Y (dEq Y Y) Y <| .r (M0 Y (dT h_177) Y) Y <| .m Y Y <| .w 13 Y Y Y (dF h_180) Y Y <| .r (L0 Y (dF h_180) Y) Y <| .r (dAs Y) Y .n) Y <| k0 <| sPk [] (H' := []) Y <| P1 [] Tryz.func3 Tryz.results3 (rT Y) ⟨Y, Y⟩
       ·refine c6 17 mixed Y (by kernel_rfl) (by kernel_rfl) (by kernel_rfl) (.m Y Y <| .r (Q7 ent11 (Q5 K _) e_174 flLit (.g Y (lendB 0 Y (.k (.o 1 Y (.x (lendG (D := J2) 2 Y) (.o 3 Y (.o 4 Y (.x (lendG (D := V0) 5 Y) (.n)))))))) .nil)) Y <| .r (k8 g25 z25 Y (le_ Y)) Y <| .m Y Y <| .r (G4 ent12 (P7 K _ _) e_176 (.s Y <| .s Y .nil)) Y <| .r (mf Tryz.underlying4 Y Y) Y <| .m Y Y <| .w 6 Y Y Y (dF h_177) Y Y <| .w 6 Y Y Y (dF h_177) Y Y <| .w 6 Y Y Y (dF h_177) Y Y <| .w 6 Y Y Y (dF h_177) Y Y <| .w 6 Y Y Y (dF h_177) Y Y <| .r (L0 Y (dF h_177) Y) Y <| .m Y Y <| .w 13 Y Y Y Y Y Y <| .r (L0 Y Y Y) Y <| .r (dAs Y) Y .n) Y <| k0 <| sPk [] (H' := []) Y <| P1 [] Tryz.func3 Tryz.results3 (rT Y) ⟨Y, Y⟩
      ·rintro m ⟨o_139, w_143, i_144⟩ ⟨v_140, v_141, us_142⟩ again_1 out_1
       refine W0 <| sSR Y <| sM Y Y <| sM Y Y <| sQ (P6 Tryz.underlying26 Y) Y <| sQ (dLt Y Y) Y <| sM Y Y <| G3 (fun h_145 => ?_) (fun h_145 => ?_)
       ·refine sG 4 Y Y Y (dT h_145) Y (dMv Y) Y <| sG 4 Y Y Y (dT h_145) Y (dLt Y Y) Y <| sQ (M0 Y (dT h_145) Y) Y <| k0 <| P2 Y (fun h_146 => ?_) (fun h_146 => ?_)
        ·refine J1 <| W0 <| V6 <| W0 <| W0 <| f9 fun r_147 e_148 => f9 fun r_149 e_150 => fa (fun h_151 => ?_) (fun h_151 => ?_)
         ·refine c6 13 mixed Y (by kernel_rfl) (by kernel_rfl) (by kernel_rfl) (.m Y Y <| .r (Q7 ent11 (Q5 K _) e_148 flLit (.g Y (lendB 0 Y (.k (.o 1 Y (.x (lendG (D := J2) 2 Y) (.o 3 Y (.o 4 Y (.x (lendG (D := V0) 5 Y) (.n)))))))) .nil)) Y <| .r (k8 g25 z25 Y (le_ Y)) Y <| .m Y Y <| .r (G4 ent12 (P7 K _ _) e_150 (.s Y <| .s Y .nil)) Y <| .r (rg Tryz.underlying4 Y Y) Y <| .m Y Y <| .w 6 Y Y Y (dT h_151) Y Y <| .w 6 Y Y Y (dT h_151) Y Y <| .w 6 Y Y Y (dT h_151) Y Y <| .w 6 Y Y Y (dT h_151) Y Y <| .w 6 Y Y Y (dT h_151) Y Y <| .r (M0 Y (dT h_151) Y) Y .n) Y <| k0 <| V4 Y Y <| sSR Y <| sA Y Y <| k0 <| r8 <| sPk [] (H' := []) Y <| P1 [] Tryz.func3 Tryz.results3 (rT Y) ⟨Y, Y⟩
         ·refine f9 fun r_152 e_153 => c6 13 mixed Y (by kernel_rfl) (by kernel_rfl) (by kernel_rfl) (.m Y Y <| .r (Q7 ent11 (Q5 K _) e_148 flLit (.g Y (lendB 0 Y (.k (.o 1 Y (.x (lendG (D := J2) 2 Y) (.o 3 Y (.o 4 Y (.x (lendG (D := V0) 5 Y) (.n)))))))) .nil)) Y <| .r (k8 g25 z25 Y (le_ Y)) Y <| .m Y Y <| .r (G4 ent12 (P7 K _ _) e_150 (.s Y <| .s Y .nil)) Y <| .r (rg Tryz.underlying4 Y Y) Y <| .m Y Y <| .g 6 Y Y Y (dF h_151) Y (dMv Y) Y <| .g 6 Y Y Y (dF h_151) Y (Q7 ent13 (G7 K _) e_153 flLit (.g Y (lendB 0 Y (.k (.o 1 Y (.x (lendG (D := J2) 2 Y) (.o 3 Y (.o 4 Y (.x (lendG (D := V0) 5 Y) (.n)))))))) .nil)) Y <| .g 6 Y Y Y (dF h_151) Y (dMv Y) Y <| .g 6 Y Y Y (dF h_151) Y (za Tryz.underlying9 Y) Y <| .g 6 Y Y Y (dF h_151) Y (dNe Y Y) Y <| .r (L0 Y (dF h_151) Y) Y .n) Y <| k0 <| P2 Y (fun h_154 => ?_) (fun h_154 => ?_)
          ·refine sSR Y <| sA Y Y <| k0 <| r8 <| sPk [] (H' := []) Y <| P1 [] Tryz.func3 Tryz.results3 (rT Y) ⟨Y, Y⟩
          ·refine J1 <| sSR Y <| sM Y Y <| sM Y Y <| sM Y Y <| M4 fun h_155 => sQ (dIx Tryz.underlying26 z3 Y Y h_155 h_145) Y <| sQ (dLd g3 Y Y) Y <| L3 fun r_156 e_157 => L7 [0, 0, 0, 0, 0, 0] ent14 Y (y7 K _ _ _ _ _ _ _ _ _ _) e_157 Y (.s Y <| .s Y .nil) Y fun ⟨v_158, v_159, us_160⟩ => P9 (H' := [.box b_52 [Ai .i64 r_156.2.g.Start, .sv v_53, .sv v_54, .sv v_56, .sv v_158, .sv v_159], .own 9 cS v_53 r_156.2.g.Names, .trg J2 v_54 r_156.2.g.Rules us_55 none, .own 3 (cI .i64) v_56 r_156.2.levels, .own 5 (cI .u8) v_158 r_156.2.w, .trg V0 v_159 r_156.2.sets us_160 none]) Y <| sA Y Y <| k0 <| W0 <| sSR Y <| sM Y Y <| sM Y Y <| sQ (dIx Tryz.underlying26 z3 Y Y h_155 h_145) Y <| sQ (dLd g3 Y Y) Y <| sQ (dLt Y Y) Y <| sM Y Y <| G3 (fun h_161 => ?_) (fun h_161 => ?_)
           ·refine sU 5 Y Y Y (dT h_161) Y Y <| sU 5 Y Y Y (dT h_161) Y Y <| sU 5 Y Y Y (dT h_161) Y Y <| sU 5 Y Y Y (dT h_161) Y Y <| sU 5 Y Y Y (dT h_161) Y Y <| sQ (M0 Y (dT h_161) Y) Y <| k0 <| V4 Y Y <| W0 <| sSR Y <| sM Y Y <| L3 fun r_162 e_163 => sQ (G4 ent8 (j3 K _) e_163 (.s Y .nil)) Y <| sQ (dNe Y Y) Y <| k0 <| P2 Y (fun h_164 => ?_) (fun h_164 => ?_)
            ·refine sSR Y <| sA Y Y <| k0 <| r8 <| sPk [] (H' := []) Y <| P1 [] Tryz.func3 Tryz.results3 (rT Y) ⟨Y, Y⟩
            ·refine J1 <| J4 Y <| W2 Y <| sM Y Y <| sQ (m4 Y Y) Y <| sA Y Y <| k0 <| M1 (again_1 (r_156.2, w_143, IntKind.wrap .i64 (i_144 + 1)) (v_158, v_159, us_160)) [0, 0, 0, 0, 0, 0] ⟨Y, Y, Y, Y, Y, trivial⟩ Y
           ·refine sG 5 Y Y Y (dF h_161) Y (dMv Y) Y <| sG 5 Y Y Y (dF h_161) Y (dMv Y) Y <| sG 5 Y Y Y (dF h_161) Y (dIx Tryz.underlying26 z3 Y Y h_155 h_145) Y <| sG 5 Y Y Y (dF h_161) Y (dLd g3 Y Y) Y <| sG 5 Y Y Y (dF h_161) Y (dGt Y Y) Y <| sQ (L0 Y (dF h_161) Y) Y <| k0 <| P2 Y (fun h_165 => ?_) (fun h_165 => ?_)
            ·refine W0 <| sSR Y <| sM Y Y <| L3 fun r_166 e_167 => sQ (G4 ent8 (j3 K _) e_167 (.s Y .nil)) Y <| sQ (dNe Y Y) Y <| k0 <| P2 Y (fun h_168 => ?_) (fun h_168 => ?_)
             ·refine sSR Y <| sA Y Y <| k0 <| r8 <| sPk [] (H' := []) Y <| P1 [] Tryz.func3 Tryz.results3 (rT Y) ⟨Y, Y⟩
             ·refine J1 <| J4 Y <| W2 Y <| sM Y Y <| sQ (m4 Y Y) Y <| sA Y Y <| k0 <| M1 (again_1 (r_156.2, w_143, IntKind.wrap .i64 (i_144 + 1)) (v_158, v_159, us_160)) [0, 0, 0, 0, 0, 0] ⟨Y, Y, Y, Y, Y, trivial⟩ Y
            ·refine J1 <| sSR Y <| sM Y Y <| sM Y Y <| sM Y Y <| sQ (dIx Tryz.underlying26 z3 Y Y h_155 h_145) Y <| sQ (dLd g3 Y Y) Y <| sQ (Gb Tryz.underlying3 Tryz.underlying5 Y) Y <| sQ (dBS (c := (cI .u8)) (xs := ([IntKind.wrap .u8 (rd cs_2 i_144)] : List Int)) Tryz.underlying42 z5 mg (.c Y (cOne (oLit Y)) .nil) Y) Y <| sQ (gj Tryz.underlying42 Tryz.underlying5 Tryz.underlying9 Y) Y <| M4 fun h_169 => sQ (gi h_169 Y Y) Y <| sA Y Y <| sES Y <| sM Y Y <| L3 fun r_170 e_171 => sQ (G4 ent8 (j3 K _) e_171 (.s Y .nil)) Y <| sQ (dNe Y Y) Y <| k0 <| P2 Y (fun h_172 => ?_) (fun h_172 => ?_)
             ·refine sSR Y <| sA Y Y <| k0 <| r8 <| sPk [] (H' := []) Y <| P1 [] Tryz.func3 Tryz.results3 (rT Y) ⟨Y, Y⟩
             ·refine J1 <| L1 <| W2 Y <| sM Y Y <| sQ (m4 Y Y) Y <| sA Y Y <| k0 <| M1 (again_1 (r_156.2, w_143 ++ (strL ([IntKind.wrap .u8 (rd cs_2 i_144)] : List Int)), IntKind.wrap .i64 (i_144 + 1)) (v_158, v_159, us_160)) [0, 0, 0, 0, 0, 0] ⟨Y, Y, Y, Y, Y, trivial⟩ Y
        ·refine J4 Y <| M1 (out_1 (o_139, w_143, i_144) (v_140, v_141, us_142)) [0, 0, 0, 0, 0, 0] ⟨Y, Y, Y, Y, Y, trivial⟩ Y
       ·refine sU 4 Y Y Y (dF h_145) Y Y <| sU 4 Y Y Y (dF h_145) Y Y <| sQ (L0 Y (dF h_145) Y) Y <| k0 <| J7 Y Y <| J4 Y <| M1 (out_1 (o_139, w_143, i_144) (v_140, v_141, us_142)) [0, 0, 0, 0, 0, 0] ⟨Y, Y, Y, Y, Y, trivial⟩ Y
end Go.Proofs.YtpjhcllohagjoaaGreat

namespace Go.Proofs.YtpjhcllohagjoaaGreat
open S
set_option linter.unusedVariables false
def firstOf {ρ : Type} (B : Nat → Option ρ) : Nat → Nat → Option ρ
 | 0, _ => none
 | k + 1, i => match B i with | some r => some r | none => firstOf B k (i + 1)
theorem firstOf_none {ρ : Type} {B : Nat → Option ρ} : ∀ {k i : Nat}, firstOf B k i = none ↔ ∀ j, i ≤ j → j < i + k → B j = none
 | 0, i => ⟨fun _ j h1 h2 => by omega, fun _ => rfl⟩
 | k + 1, i => by
  unfold firstOf
  constructor
  ·intro h j h1 h2
   split at h
   ·cases h
   ·rename_i hb
    rcases Nat.eq_or_lt_of_le h1 with rfl | h1
    ·exact hb
    ·exact firstOf_none.1 h j (by omega) (by omega)
  ·intro h
   rw [h i (Nat.le_refl _) (by omega)]
   exact firstOf_none.2 fun j h1 h2 => h j (by omega) (by omega)
theorem firstOf_some {ρ : Type} {B : Nat → Option ρ} {r : ρ} : ∀ {k i : Nat}, firstOf B k i = some r → ∃ j, i ≤ j ∧ j < i + k ∧ B j = some r ∧ ∀ q, i ≤ q → q < j → B q = none
 | 0, i, h => by cases h
 | k + 1, i, h => by
  unfold firstOf at h
  split at h
  ·rename_i hb; cases h; exact ⟨i, Nat.le_refl _, by omega, hb, fun q h1 h2 => by omega⟩
  ·rename_i hb
   obtain ⟨j, h1, h2, h3, h4⟩ := firstOf_some h
   exact ⟨j, by omega, by omega, h3, fun q q1 q2 => by
    rcases Nat.eq_or_lt_of_le q1 with rfl | q1
    ·exact hb
    ·exact h4 q (by omega) q2⟩
theorem scan {ρ : Type} (n : Nat) (L : Nat → Int → Option (Int ⊕ ρ)) (B : Nat → Option ρ)
  (step : ∀ m i, i < n → L (m + 1) (i : Int) = match B i with | some r => some (.inr r) | none => L m ((i : Int) + 1))
  (stop : ∀ m, L (m + 1) (n : Int) = some (.inl (n : Int))) : ∀ k i m, i + k = n → k < m → L m (i : Int) = some (match firstOf B k i with | some r => .inr r | none => .inl (n : Int)) := by
 intro k
 induction k with
 | zero =>
  intro i m hi hm
  obtain ⟨m, rfl⟩ : ∃ q, m = q + 1 := ⟨m - 1, by omega⟩
  have : i = n := by omega
  subst this
  exact stop m
 | succ k ih =>
  intro i m hi hm
  obtain ⟨m, rfl⟩ : ∃ q, m = q + 1 := ⟨m - 1, by omega⟩
  rw [step m i (by omega)]
  unfold firstOf
  cases B i with
  | some r => rfl
  | none => simpa using ih (i + 1) m (by omega) (by omega)
theorem scanS {ρ τ : Type} (n : Nat) (L : Nat → τ × Int → Option ((τ × Int) ⊕ ρ)) (B : τ → Nat → τ ⊕ ρ)
  (step : ∀ m s i, i < n → L (m + 1) (s, (i : Int)) = match B s i with | .inr r => some (.inr r) | .inl s' => L m (s', (i : Int) + 1))
  (stop : ∀ m s, L (m + 1) (s, (n : Int)) = some (.inl (s, (n : Int)))) (I : Nat → τ → Prop) (hI : ∀ s i, i < n → I i s → ∀ s', B s i = .inl s' → I (i + 1) s') :
  ∀ k i s m, i + k = n → k < m → I i s → (∃ s', L m (s, (i : Int)) = some (.inl (s', (n : Int))) ∧ I n s') ∨ ∃ r j s', L m (s, (i : Int)) = some (.inr r) ∧ i ≤ j ∧ j < n ∧ I j s' ∧ B s' j = .inr r := by
 intro k
 induction k with
 | zero =>
  intro i s m hi hm h
  obtain ⟨m, rfl⟩ : ∃ q, m = q + 1 := ⟨m - 1, by omega⟩
  have : i = n := by omega
  subst this
  exact .inl ⟨s, stop m s, h⟩
 | succ k ih =>
  intro i s m hi hm h
  obtain ⟨m, rfl⟩ : ∃ q, m = q + 1 := ⟨m - 1, by omega⟩
  rw [step m s i (by omega)]
  cases hb : B s i with
  | inr r => exact .inr ⟨r, i, s, rfl, Nat.le_refl _, by omega, h, hb⟩
  | inl s' =>
   rcases ih (i + 1) s' m (by omega) (by omega) (hI s i (by omega) h s' hb) with ⟨s2, h1, h2⟩ | ⟨r, j, s2, h1, h2, h3, h4, h5⟩
   ·exact .inl ⟨s2, by simpa using h1, h2⟩
   ·exact .inr ⟨r, j, s2, by simpa using h1, by omega, h3, h4, h5⟩
end Go.Proofs.YtpjhcllohagjoaaGreat
namespace Go.Proofs.YtpjhcllohagjoaaGreat
open S
set_option linter.unusedVariables false
set_option linter.unusedSimpArgs false
set_option maxRecDepth 100000
theorem letter_some (K : Nat) (c : Int) : ∃ b, ya K c = some b := by
 unfold ya
 repeat' split
 all_goals exact ⟨_, rfl⟩
theorem more_some (K : Nat) (c : Int) : ∃ b, fb K c = some b := by
 obtain ⟨b, hb⟩ := letter_some K c
 unfold fb
 rw [hb, Option.bind_some]
 repeat' split
 all_goals exact ⟨_, rfl⟩
theorem lexName_some (K : Nat) (hK : 1000 ≤ K) (s : ByteArray) : ∃ b, P8 K s = some b := by
 unfold P8
 by_cases h1 : s = (⟨#[]⟩ : ByteArray)
 ·rw [if_pos h1]; exact ⟨_, rfl⟩
 rw [if_neg h1]
 by_cases h2 : 32 < (s.size : Int)
 ·rw [if_pos h2]; exact ⟨_, rfl⟩
 rw [if_neg h2]
 split
 ·exact ⟨_, rfl⟩
 have h0 : 0 < (s.size : Int) := by
  rcases Nat.eq_zero_or_pos s.size with h | h
  ·exfalso; apply h1
   apply ByteArray.ext
   exact Array.eq_empty_of_size_eq_zero h
  ·omega
 rw [if_pos h0]
 obtain ⟨b, hb⟩ := letter_some K (bt s 0)
 rw [hb, Option.bind_some]
 split
 ·exact ⟨_, rfl⟩
 have := scan s.size (P8.l0 K s) (fun i => if (!((fb K (bt s (i : Int))).getD false)) = true then some false else none) (fun m i hi => by
  obtain ⟨q, hq⟩ := more_some K (bt s (i : Int))
  simp only [P8.l0]
  rw [if_pos (by omega), if_pos (Int.natCast_nonneg i), hq, Option.bind_some, Option.getD_some, wr (a := (i : Int) + 1) (by omega) (by omega)]
  cases q <;> rfl) (fun m => by simp only [P8.l0]; rw [if_neg (by omega)]) s.size 0 K (by omega) (by omega)
 rw [show ((0 : Nat) : Int) = 0 from rfl] at this
 rw [this]
 split <;> exact ⟨_, rfl⟩
theorem names_some (K : Nat) (hK : 1000 ≤ K) (ns : List ByteArray) : ∃ b, g8 K ns = some b := by
 unfold g8
 split
 ·exact ⟨_, rfl⟩
 split
 ·exact ⟨_, rfl⟩
 have hex : ∀ i : Int, ∃ b, P8 K (rd ns i) = some b := fun i => lexName_some K hK _
 have hs := scanS ns.length (g8.l0 K ns) (fun es i => if (!((P8 K (rd ns (i : Int))).getD false)) = true then .inr false else if (mgetD false es (rd ns (i : Int))) = true then .inr false else .inl (mput es (rd ns (i : Int)) true)) (fun m s i hi => by
  obtain ⟨b, hb⟩ := hex i
  simp only [g8.l0]
  rw [if_pos (by omega), if_pos (Int.natCast_nonneg i), hb, Option.bind_some, Option.getD_some, wr (a := (i : Int) + 1) (by omega) (by omega)]
  cases b
  ·rfl
  ·simp only [Bool.not_true, Bool.false_eq_true, if_false]
   split <;> rfl) (fun m s => by simp only [g8.l0]; rw [if_neg (by omega)]) (fun _ _ => True) (fun _ _ _ _ _ _ => trivial) ns.length 0 [] K (by omega) (by omega) trivial
 rw [show ((0 : Nat) : Int) = 0 from rfl] at hs
 rcases hs with ⟨s', h, _⟩ | ⟨r, j, s', h, _⟩ <;> rw [h] <;> exact ⟨_, rfl⟩
theorem symbol_some (K : Nat) (s : Symbol) (n : Int) : ∃ b, ja K s n = some b := by
 unfold ja
 repeat' split
 all_goals exact ⟨_, rfl⟩
def RuleBd (r : Rule) : Prop := r.Conj.length ≤ 8 ∧ ∀ c ∈ r.Conj, c.Seq.length ≤ 64
theorem rule_some (K : Nat) (hK : 1000 ≤ K) (r : Rule) (n : Int) : ∃ q, v6 K r n = some q ∧ 0 ≤ q.1 ∧ q.1 ≤ 512 ∧ (q.2 = true → RuleBd r) := by
 unfold v6
 split
 ·exact ⟨_, rfl, by decide, by decide, fun h => by cases h⟩
 split
 ·exact ⟨_, rfl, by decide, by decide, fun h => by cases h⟩
 have hin : ∀ i : Int, (rd r.Conj i).Seq.length ≤ 64 → ∃ q, v6.l1 K r n i K 0 = some q ∧ (q = .inl ((rd r.Conj i).Seq.length : Int) ∨ q = .inr (.inr (0, false))) := fun i hi => by
  have := scan (rd r.Conj i).Seq.length (v6.l1 K r n i) (fun j => if (!((ja K (⟨(rd ((rd r.Conj i).Seq) (j : Int)).Name, (rd ((rd r.Conj i).Seq) (j : Int)).Lo, (rd ((rd r.Conj i).Seq) (j : Int)).Hi⟩ : Symbol) n).getD false)) = true then some (.inr (0, false)) else none) (fun m j hj => by
   obtain ⟨b, hb⟩ := symbol_some K (⟨(rd ((rd r.Conj i).Seq) (j : Int)).Name, (rd ((rd r.Conj i).Seq) (j : Int)).Lo, (rd ((rd r.Conj i).Seq) (j : Int)).Hi⟩ : Symbol) n
   simp only [v6.l1]
   rw [if_pos (by omega), if_pos (Int.natCast_nonneg j), hb, Option.bind_some, Option.getD_some, wr (a := (j : Int) + 1) (by omega) (by omega)]
   cases b <;> rfl) (fun m => by simp only [v6.l1]; rw [if_neg (by omega)]) (rd r.Conj i).Seq.length 0 K (by omega) (by omega)
  rw [show ((0 : Nat) : Int) = 0 from rfl] at this
  rw [this]
  split
  ·rename_i hq
   obtain ⟨j, _, _, h3, _⟩ := firstOf_some hq
   split at h3
   ·cases h3; exact ⟨_, rfl, .inr rfl⟩
   ·cases h3
  ·exact ⟨_, rfl, .inl rfl⟩
 have hs := scanS r.Conj.length (v6.l0 K r n) (fun s i => if 64 < (((rd r.Conj (i : Int)).Seq).length : Int) then .inr (0, false) else match v6.l1 K r n (i : Int) K 0 with | some (.inl _) => .inl (IntKind.wrap .i64 (s + (((rd r.Conj (i : Int)).Seq).length : Int))) | _ => .inr (0, false)) (fun m s i hi => by
  simp only [v6.l0]
  rw [if_pos (by omega), if_pos (Int.natCast_nonneg i), wr (a := (i : Int) + 1) (by omega) (by omega)]
  split
  ·rfl
  ·rename_i h64
   obtain ⟨q, h1, h2⟩ := hin i (by omega)
   rw [h1]
   rcases h2 with rfl | rfl <;> rfl) (fun m s => by simp only [v6.l0]; rw [if_neg (by omega)])
  (fun i s => 0 ≤ s ∧ s ≤ 64 * i ∧ ∀ j : Nat, j < i → (rd r.Conj (j : Int)).Seq.length ≤ 64) (fun s i hi hI s' h => by
   split at h
   ·cases h
   ·rename_i h64
    obtain ⟨q, h1, h2⟩ := hin i (by omega)
    rw [h1] at h
    rcases h2 with rfl | rfl
    ·simp only [Sum.inl.injEq] at h
     rw [wr (by omega) (by omega)] at h
     subst h
     refine ⟨by omega, by push_cast; omega, fun j hj => ?_⟩
     rcases Nat.lt_succ_iff_lt_or_eq.1 hj with hj | rfl
     ·exact hI.2.2 j hj
     ·omega
    ·cases h) r.Conj.length 0 0 K (by omega) (by omega) ⟨by omega, by omega, fun j hj => by omega⟩
 rw [show ((0 : Nat) : Int) = 0 from rfl] at hs
 rcases hs with ⟨s', h, h1, h2, h3⟩ | ⟨q, j, s', h, _, hj, _, hq⟩
 ·rw [h]
  refine ⟨_, rfl, h1, by omega, fun _ => ⟨by omega, fun c hc => ?_⟩⟩
  obtain ⟨j, hj, rfl⟩ := List.getElem_of_mem hc
  have := h3 j hj
  rwa [rd_nat, List.getD_eq_getElem?_getD, List.getElem?_eq_getElem hj] at this
 ·rw [h]
  have : q = (0, false) := by
   split at hq
   ·cases hq; rfl
   ·split at hq
    ·cases hq
    ·cases hq; rfl
  subst this
  exact ⟨_, rfl, by decide, by decide, fun h => by cases h⟩
def Bd (g : Grammar) : Prop := g.Rules.length ≤ 256 ∧ ∀ r ∈ g.Rules, RuleBd r
theorem May_some (K : Nat) (hK : 1000 ≤ K) (g : Grammar) : ∃ b, c7 K g = some b ∧ (b = true → Bd g) := by
 unfold c7
 obtain ⟨b, hb⟩ := names_some K hK g.Names
 rw [hb, Option.bind_some]
 split
 ·exact ⟨_, rfl, fun h => by cases h⟩
 split
 ·exact ⟨_, rfl, fun h => by cases h⟩
 split
 ·exact ⟨_, rfl, fun h => by cases h⟩
 split
 ·exact ⟨_, rfl, fun h => by cases h⟩
 split
 ·exact ⟨_, rfl, fun h => by cases h⟩
 have hex : ∀ i : Int, ∃ q, v6 K (rd g.Rules i) (g.Names.length : Int) = some q ∧ 0 ≤ q.1 ∧ q.1 ≤ 512 ∧ (q.2 = true → RuleBd (rd g.Rules i)) := fun i => rule_some K hK _ _
 have hs := scanS (τ := Int × Int) g.Rules.length (fun m s => (c7.l0 K g m (s.1.1, s.1.2, s.2)).map fun | .inl (a, b, c) => .inl ((a, b), c) | .inr r => .inr r)
  (fun s i => match v6 K (rd g.Rules (i : Int)) (g.Names.length : Int) with
   | some q => if (!q.2) = true then .inr false else if (rd g.Rules (i : Int)).Head < s.1 then .inr false else if IntKind.wrap .i64 (s.1 + 1) < (rd g.Rules (i : Int)).Head then .inr false else if 1024 < IntKind.wrap .i64 (s.2 + q.1) then .inr false else .inl ((rd g.Rules (i : Int)).Head, IntKind.wrap .i64 (s.2 + q.1))
   | none => .inr false) (fun m s i hi => by
  obtain ⟨q, h1, h2, h3, h4⟩ := hex i
  simp only [c7.l0]
  rw [if_pos (by omega), if_pos (Int.natCast_nonneg i), h1, Option.bind_some, wr (a := (i : Int) + 1) (by omega) (by omega)]
  simp only
  split
  ·rfl
  split
  ·rfl
  split
  ·rfl
  split
  ·rfl
  rfl) (fun m s => by simp only [c7.l0]; rw [if_neg (by omega)]; rfl)
  (fun i s => ∀ j : Nat, j < i → RuleBd (rd g.Rules (j : Int))) (fun s i hi hI s' h => by
   obtain ⟨q, h1, h2, h3, h4⟩ := hex i
   rw [h1] at h
   simp only at h
   split at h
   ·cases h
   ·rename_i hq
    intro j hj
    rcases Nat.lt_succ_iff_lt_or_eq.1 hj with hj | rfl
    ·exact hI j hj
    ·exact h4 (by cases hq2 : q.2 <;> simp_all)) g.Rules.length 0 (-1, 0) K (by omega) (by omega) (fun j hj => by omega)
 simp only [show ((0 : Nat) : Int) = 0 from rfl] at hs
 have hfin : ∀ r, (c7.l0 K g K (-1, 0, 0)).map (fun | .inl (a, b, c) => (.inl ((a, b), c) : ((Int × Int) × Int) ⊕ Bool) | .inr r => .inr r) = some r → (∃ a b c, c7.l0 K g K (-1, 0, 0) = some (.inl (a, b, c)) ∧ r = .inl ((a, b), c)) ∨ ∃ q, c7.l0 K g K (-1, 0, 0) = some (.inr q) ∧ r = .inr q := by
  intro r h
  cases hl : c7.l0 K g K (-1, 0, 0) with
  | none => rw [hl] at h; cases h
  | some x =>
   rw [hl] at h
   cases x with
   | inl x => obtain ⟨a, b, c⟩ := x; cases h; exact .inl ⟨a, b, c, rfl, rfl⟩
   | inr q => cases h; exact .inr ⟨q, rfl, rfl⟩
 have hpos : 0 < (g.Rules.length : Int) := by omega
 rcases hs with ⟨s', h, h3⟩ | ⟨q, j, s', h, _, hj, _, hq⟩
 ·rcases hfin _ h with ⟨a, b, c, h1, h2⟩ | ⟨q, h1, h2⟩
  ·rw [h1]
   simp only [brk, Option.bind_some]
   rw [if_pos hpos]
   have hbd : Bd g := ⟨by omega, fun r hr => by
    obtain ⟨j, hj, rfl⟩ := List.getElem_of_mem hr
    have := h3 j hj
    rwa [rd_nat, List.getD_eq_getElem?_getD, List.getElem?_eq_getElem hj] at this⟩
   split
   ·exact ⟨_, rfl, fun _ => hbd⟩
   ·exact ⟨_, rfl, fun h => by cases h⟩
  ·cases h2
 ·rcases hfin _ h with ⟨a, b, c, h1, h2⟩ | ⟨q', h1, h2⟩
  ·cases h2
  ·cases h2
   rw [h1]
   refine ⟨q, rfl, fun hqt => ?_⟩
   subst hqt
   obtain ⟨q', g1, g2, g3, g4⟩ := hex j
   rw [g1] at hq
   simp only at hq
   repeat' split at hq
   all_goals cases hq
end Go.Proofs.YtpjhcllohagjoaaGreat
namespace Go.Proofs.YtpjhcllohagjoaaGreat
open S Go.Sort
set_option linter.unusedVariables false
set_option linter.unusedSimpArgs false
set_option maxRecDepth 100000
theorem foldLoop {τ α : Type} [Inhabited α] (xs : List α) (L : Nat → τ × Int → Option (τ × Int)) (f : τ → α → τ) (step : ∀ m s i, i < xs.length → L (m + 1) (s, (i : Int)) = L m (f s (rd xs (i : Int)), (i : Int) + 1))
  (stop : ∀ m s, L (m + 1) (s, (xs.length : Int)) = some (s, (xs.length : Int))) (m : Nat) (hm : xs.length < m) (s : τ) : L m (s, 0) = some (xs.foldl f s, (xs.length : Int)) := by
 have key : ∀ k i s m, i + k = xs.length → k < m → L m (s, (i : Int)) = some ((xs.drop i).foldl f s, (xs.length : Int)) := by
  intro k
  induction k with
  | zero =>
   intro i s m hi hm
   obtain ⟨m, rfl⟩ : ∃ q, m = q + 1 := ⟨m - 1, by omega⟩
   have : i = xs.length := by omega
   subst this
   rw [stop, List.drop_length]; rfl
  | succ k ih =>
   intro i s m hi hm
   obtain ⟨m, rfl⟩ : ∃ q, m = q + 1 := ⟨m - 1, by omega⟩
   have hil : i < xs.length := by omega
   rw [step m s i hil, List.drop_eq_getElem_cons hil, List.foldl_cons]
   have e : rd xs (i : Int) = xs[i] := by rw [rd_nat, List.getD_eq_getElem?_getD, List.getElem?_eq_getElem hil]; rfl
   rw [e]
   simpa using ih (i + 1) (f s xs[i]) m (by omega) (by omega)
 simpa using key xs.length 0 s m (by omega) hm
def eOf (r : Rule) (c : Conjunct) (s : Symbol) : Edge := ⟨r.Head, s.Name, c.Neg⟩
def addS (r : Rule) (c : Conjunct) (es : List (Edge × Bool)) (s : Symbol) : List (Edge × Bool) := if 0 ≤ s.Name then mput es (eOf r c s) true else es
def addC (r : Rule) (es : List (Edge × Bool)) (c : Conjunct) : List (Edge × Bool) := c.Seq.foldl (addS r c) es
def addR (es : List (Edge × Bool)) (r : Rule) : List (Edge × Bool) := r.Conj.foldl (addC r) es
def mapOf (g : Grammar) : List (Edge × Bool) := g.Rules.foldl addR []
def keysOf (g : Grammar) : List Edge := (mapOf g).map (·.1)
def edgesOf (g : Grammar) : List Edge := sortL rowC (keysOf g)
theorem edges_l2 (K : Nat) (hK : 200000 ≤ K) (g : Grammar) (i j : Int) (h : (rd (rd g.Rules i).Conj j).Seq.length ≤ 64) (es : List (Edge × Bool)) :
  M5.l2 K g i j K (es, 0) = some ((rd (rd g.Rules i).Conj j).Seq.foldl (addS (rd g.Rules i) (rd (rd g.Rules i).Conj j)) es, ((rd (rd g.Rules i).Conj j).Seq.length : Int)) :=
 foldLoop _ (M5.l2 K g i j) _ (fun m s k hk => by
  simp only [M5.l2, addS, eOf]
  rw [if_pos (by omega), if_pos (Int.natCast_nonneg k), wr (a := (k : Int) + 1) (by omega) (by omega)]
  split <;> rfl) (fun m s => by simp only [M5.l2]; rw [if_neg (by omega)]) K (by omega) es
theorem edges_l1 (K : Nat) (hK : 200000 ≤ K) (g : Grammar) (i : Int) (h : RuleBd (rd g.Rules i)) (es : List (Edge × Bool)) :
  M5.l1 K g i K (es, 0) = some ((rd g.Rules i).Conj.foldl (addC (rd g.Rules i)) es, ((rd g.Rules i).Conj.length : Int)) := by
 have h8 := h.1
 exact foldLoop _ (M5.l1 K g i) _ (fun m s k hk => by
  have hc : (rd (rd g.Rules i).Conj (k : Int)).Seq.length ≤ 64 := h.2 _ (rd_mem (Int.natCast_nonneg k) (by omega))
  simp only [M5.l1]
  rw [if_pos (by omega), if_pos (Int.natCast_nonneg k), edges_l2 K hK g i k hc, Option.bind_some, wr (a := (k : Int) + 1) (by omega) (by omega)]
  rfl) (fun m s => by simp only [M5.l1]; rw [if_neg (by omega)]) K (by omega) es
theorem edges_l0 (K : Nat) (hK : 200000 ≤ K) (g : Grammar) (h : Bd g) : M5.l0 K g K ([], 0) = some (mapOf g, (g.Rules.length : Int)) := by
 have h256 := h.1
 exact foldLoop _ (M5.l0 K g) _ (fun m s k hk => by
  have hr : RuleBd (rd g.Rules (k : Int)) := h.2 _ (rd_mem (Int.natCast_nonneg k) (by omega))
  simp only [M5.l0]
  rw [if_pos (by omega), if_pos (Int.natCast_nonneg k), edges_l1 K hK g k hr, Option.bind_some, wr (a := (k : Int) + 1) (by omega) (by omega)]
  rfl) (fun m s => by simp only [M5.l0]; rw [if_neg (by omega)]) K (by omega) []
end Go.Proofs.YtpjhcllohagjoaaGreat
namespace Go.Proofs.YtpjhcllohagjoaaGreat
open S Go.Sort
set_option linter.unusedVariables false
set_option linter.unusedSimpArgs false
set_option maxRecDepth 100000
theorem mput_keys {κ ν : Type} [DecidableEq κ] {es : List (κ × ν)} {k : κ} {v : ν} : ∀ e, e ∈ (mput es k v).map (·.1) ↔ e ∈ es.map (·.1) ∨ e = k := by
 induction es with
 | nil => intro e; simp [mput]
 | cons p es ih =>
  intro e
  rw [mput]
  split
  ·rename_i h; subst h; simp only [List.map_cons, List.mem_cons]
   constructor
   ·rintro (h | h)
    ·exact .inl (.inl h)
    ·exact .inl (.inr h)
   ·rintro ((h | h) | h)
    ·exact .inl h
    ·exact .inr h
    ·exact .inl h
  ·simp only [List.map_cons, List.mem_cons, ih e]
   constructor
   ·rintro (h | h | h)
    ·exact .inl (.inl h)
    ·exact .inl (.inr h)
    ·exact .inr h
   ·rintro ((h | h) | h)
    ·exact .inl h
    ·exact .inr (.inl h)
    ·exact .inr (.inr h)
theorem mput_nodup {κ ν : Type} [DecidableEq κ] {es : List (κ × ν)} {k : κ} {v : ν} (h : (es.map (·.1)).Nodup) : ((mput es k v).map (·.1)).Nodup := by
 induction es with
 | nil => simp [mput]
 | cons p es ih =>
  rw [List.map_cons, List.nodup_cons] at h
  rw [mput]
  split
  ·rename_i hp; subst hp; simp only [List.map_cons, List.nodup_cons]; exact h
  ·rename_i hp
   simp only [List.map_cons, List.nodup_cons]
   refine ⟨fun hm => ?_, ih h.2⟩
   rcases (mput_keys _).1 hm with hm | hm
   ·exact h.1 hm
   ·exact hp hm
theorem mput_len {κ ν : Type} [DecidableEq κ] {es : List (κ × ν)} {k : κ} {v : ν} : (mput es k v).length ≤ es.length + 1 := by
 induction es with
 | nil => simp [mput]
 | cons p es ih => rw [mput]; split <;> simp <;> omega
theorem fold_mem {τ α : Type} (f : τ → α → τ) (In : τ → Edge → Prop) (Oc : α → Edge → Prop) (h : ∀ s a e, In (f s a) e ↔ In s e ∨ Oc a e) : ∀ (xs : List α) (s : τ) e, In (xs.foldl f s) e ↔ In s e ∨ ∃ a ∈ xs, Oc a e
 | [], s, e => by simp
 | x :: xs, s, e => by
  rw [List.foldl_cons, fold_mem f In Oc h xs, h]
  simp only [List.mem_cons, exists_eq_or_imp, or_assoc]
theorem fold_inv {τ α : Type} (f : τ → α → τ) (I : τ → Prop) (h : ∀ s a, I s → I (f s a)) : ∀ (xs : List α) (s : τ), I s → I (xs.foldl f s)
 | [], s, hs => hs
 | x :: xs, s, hs => fold_inv f I h xs _ (h s x hs)
theorem fold_len {τ α : Type} (f : τ → α → τ) (μ : τ → Nat) (B : Nat) : ∀ (xs : List α) (s : τ), (∀ s, ∀ a ∈ xs, μ (f s a) ≤ μ s + B) → μ (xs.foldl f s) ≤ μ s + xs.length * B
 | [], s, _ => by simp
 | x :: xs, s, h => by
  have h1 := h s x (.head _)
  have h2 := fold_len f μ B xs (f s x) (fun s a ha => h s a (.tail _ ha))
  rw [List.foldl_cons, List.length_cons, Nat.add_mul]; omega
def OccS (r : Rule) (c : Conjunct) (s : Symbol) (e : Edge) : Prop := 0 ≤ s.Name ∧ e = eOf r c s
def OccC (r : Rule) (c : Conjunct) (e : Edge) : Prop := ∃ s ∈ c.Seq, OccS r c s e
def OccR (r : Rule) (e : Edge) : Prop := ∃ c ∈ r.Conj, OccC r c e
def Occ (g : Grammar) (e : Edge) : Prop := ∃ r ∈ g.Rules, OccR r e
def InM (es : List (Edge × Bool)) (e : Edge) : Prop := e ∈ es.map (·.1)
theorem keys_occ (g : Grammar) (e : Edge) : e ∈ keysOf g ↔ Occ g e := by
 have h1 : ∀ r c es s e, InM (addS r c es s) e ↔ InM es e ∨ OccS r c s e := fun r c es s e => by
  unfold addS OccS InM
  split
  ·rename_i h; rw [mput_keys]; simp [h]
  ·rename_i h; simp [h]
 have h2 : ∀ r es c e, InM (addC r es c) e ↔ InM es e ∨ OccC r c e := fun r es c e => fold_mem _ InM (OccS r c) (h1 r c) _ _ _
 have h3 : ∀ es r e, InM (addR es r) e ↔ InM es e ∨ OccR r e := fun es r e => fold_mem _ InM (OccC r) (h2 r) _ _ _
 have := fold_mem addR InM OccR h3 g.Rules [] e
 unfold keysOf mapOf Occ
 exact this.trans (by simp [InM])
theorem keys_nodup (g : Grammar) : (keysOf g).Nodup := by
 have h1 : ∀ r c es s, (List.map Prod.fst es).Nodup → (List.map Prod.fst (addS r c es s)).Nodup := fun r c es s h => by
  unfold addS
  split
  ·exact mput_nodup h
  ·exact h
 unfold keysOf mapOf
 exact fold_inv addR (fun es => (List.map Prod.fst es).Nodup) (fun es r h => fold_inv (addC r) (fun es => (List.map Prod.fst es).Nodup) (fun es c h => fold_inv (addS r c) (fun es => (List.map Prod.fst es).Nodup) (h1 r c) _ _ h) _ _ h) _ _ (by simp)
theorem map_len (g : Grammar) (h : Bd g) : (mapOf g).length ≤ 131072 := by
 have h1 : ∀ r c es s, (addS r c es s).length ≤ es.length + 1 := fun r c es s => by
  unfold addS
  split
  ·exact mput_len
  ·omega
 have h2 : ∀ r, RuleBd r → ∀ es, ∀ c ∈ r.Conj, (addC r es c).length ≤ es.length + 64 := fun r hr es c hc => by
  have := fold_len (addS r c) List.length 1 c.Seq es (fun s a _ => h1 r c s a)
  have := hr.2 c hc
  unfold addC; omega
 have h3 : ∀ es, ∀ r ∈ g.Rules, (addR es r).length ≤ es.length + 512 := fun es r hr => by
  have hb := h.2 r hr
  have := fold_len (addC r) List.length 64 r.Conj es (fun s a ha => h2 r hb s a ha)
  have := hb.1
  unfold addR; omega
 have := fold_len addR List.length 512 g.Rules [] h3
 have := h.1
 unfold mapOf; simp at *; omega
theorem edges_perm (g : Grammar) : (edgesOf g).Perm (keysOf g) := List.mergeSort_perm _ _
theorem mem_edges (g : Grammar) (e : Edge) : e ∈ edgesOf g ↔ Occ g e := by rw [(edges_perm g).mem_iff, keys_occ]
theorem edges_nodup (g : Grammar) : (edgesOf g).Nodup := (edges_perm g).nodup_iff.2 (keys_nodup g)
theorem edges_len (g : Grammar) (h : Bd g) : (edgesOf g).length ≤ 131072 := by
 rw [(edges_perm g).length_eq]; unfold keysOf; rw [List.length_map]; exact map_len g h
theorem Edges_spec (K : Nat) (hK : 200000 ≤ K) (g : Grammar) : ∃ b, c7 K g = some b ∧ (b = true → Bd g) ∧ M5 K g = some (if b = true then (edgesOf g, 0) else ([], 600)) := by
 obtain ⟨b, hb, hbd⟩ := May_some K (by omega) g
 refine ⟨b, hb, hbd, ?_⟩
 unfold M5
 rw [hb, Option.bind_some]
 cases b with
 | false => rfl
 | true =>
  have h := hbd rfl
  have hl := map_len g h
  rw [if_neg (by decide), edges_l0 K hK g h, Option.bind_some]
  simp only
  rw [if_pos (by omega), if_pos (by omega)]
  rfl
end Go.Proofs.YtpjhcllohagjoaaGreat
namespace Go.Proofs.YtpjhcllohagjoaaGreat
open S
set_option linter.unusedVariables false
set_option linter.unusedSimpArgs false
set_option maxRecDepth 100000
def runL {τ ρ α : Type} (B : τ → α → τ ⊕ ρ) : τ → List α → τ ⊕ ρ
 | s, [] => .inl s
 | s, x :: xs => match B s x with | .inl s' => runL B s' xs | .inr r => .inr r
theorem scanL {τ ρ α : Type} [Inhabited α] (xs : List α) (L : Nat → τ × Int → Option ((τ × Int) ⊕ ρ)) (B : τ → α → τ ⊕ ρ) (I : Nat → τ → Prop)
  (step : ∀ m s i, i < xs.length → I i s → L (m + 1) (s, (i : Int)) = match B s (rd xs (i : Int)) with | .inr r => some (.inr r) | .inl s' => L m (s', (i : Int) + 1))
  (stop : ∀ m s, L (m + 1) (s, (xs.length : Int)) = some (.inl (s, (xs.length : Int)))) (hI : ∀ s i, i < xs.length → I i s → ∀ s', B s (rd xs (i : Int)) = .inl s' → I (i + 1) s')
  (m : Nat) (hm : xs.length < m) (s : τ) (h0 : I 0 s) : L m (s, 0) = some (match runL B s xs with | .inl s' => .inl (s', (xs.length : Int)) | .inr r => .inr r) := by
 have key : ∀ k i s m, i + k = xs.length → k < m → I i s → L m (s, (i : Int)) = some (match runL B s (xs.drop i) with | .inl s' => .inl (s', (xs.length : Int)) | .inr r => .inr r) := by
  intro k
  induction k with
  | zero =>
   intro i s m hi hm h
   obtain ⟨m, rfl⟩ : ∃ q, m = q + 1 := ⟨m - 1, by omega⟩
   have : i = xs.length := by omega
   subst this
   rw [stop, List.drop_length]; rfl
  | succ k ih =>
   intro i s m hi hm h
   obtain ⟨m, rfl⟩ : ∃ q, m = q + 1 := ⟨m - 1, by omega⟩
   have hil : i < xs.length := by omega
   have e : rd xs (i : Int) = xs[i] := by rw [rd_nat, List.getD_eq_getElem?_getD, List.getElem?_eq_getElem hil]; rfl
   have hn := hI s i hil h
   rw [step m s i hil h, List.drop_eq_getElem_cons hil, runL, ← e]
   cases hb : B s (rd xs (i : Int)) with
   | inr r => rfl
   | inl s' => simpa using ih (i + 1) s' m (by omega) (by omega) (hn s' hb)
 simpa using key xs.length 0 s m (by omega) hm h0
def letterP (c : Int) : Prop := (65 ≤ c ∧ c ≤ 90) ∨ (97 ≤ c ∧ c ≤ 122) ∨ c = 95
def moreP (c : Int) : Prop := letterP c ∨ (48 ≤ c ∧ c ≤ 57)
def nameP (s : ByteArray) : Prop := 1 ≤ s.size ∧ s.size ≤ 32 ∧ s ≠ (⟨#[115, 116, 97, 114, 116]⟩ : ByteArray) ∧ letterP (bt s 0) ∧ ∀ i : Nat, i < s.size → moreP (bt s (i : Int))
theorem letter_spec (K : Nat) (c : Int) : ∃ b, ya K c = some b ∧ (b = true ↔ letterP c) := by
 unfold ya letterP
 repeat' split
 all_goals refine ⟨_, rfl, ?_⟩
 all_goals first | simp only [true_iff, decide_eq_true_eq] | skip
 all_goals omega
theorem more_spec (K : Nat) (c : Int) : ∃ b, fb K c = some b ∧ (b = true ↔ moreP c) := by
 obtain ⟨b, hb, hl⟩ := letter_spec K c
 unfold fb moreP
 rw [hb, Option.bind_some]
 repeat' split
 all_goals refine ⟨_, rfl, ?_⟩
 all_goals simp only [true_iff, decide_eq_true_eq, Bool.false_eq_true, false_iff] at *
 all_goals rw [← hl]
 all_goals simp_all
 all_goals omega
theorem ask_all {n K : Nat} {L : Nat → Int → Option (Int ⊕ Bool)} {p : Nat → Prop} (hn : n < K) (step : ∀ m i, i < n → (p i ∧ L (m + 1) (i : Int) = L m ((i : Int) + 1)) ∨ (¬ p i ∧ L (m + 1) (i : Int) = some (.inr false)))
  (stop : ∀ m, L (m + 1) (n : Int) = some (.inl (n : Int))) : (L K 0 = some (.inl (n : Int)) ∧ ∀ i, i < n → p i) ∨ (L K 0 = some (.inr false) ∧ ¬ ∀ i, i < n → p i) := by
 have key : ∀ k i m, i + k = n → k < m → (L m (i : Int) = some (.inl (n : Int)) ∧ ∀ j, i ≤ j → j < n → p j) ∨ (L m (i : Int) = some (.inr false) ∧ ¬ ∀ j, i ≤ j → j < n → p j) := by
  intro k
  induction k with
  | zero =>
   intro i m hi hm
   obtain ⟨m, rfl⟩ : ∃ q, m = q + 1 := ⟨m - 1, by omega⟩
   have : i = n := by omega
   subst this
   exact .inl ⟨stop m, fun j h1 h2 => by omega⟩
  | succ k ih =>
   intro i m hi hm
   obtain ⟨m, rfl⟩ : ∃ q, m = q + 1 := ⟨m - 1, by omega⟩
   rcases step m i (by omega) with ⟨hp, he⟩ | ⟨hp, he⟩
   ·rw [he]
    have := ih (i + 1) m (by omega) (by omega)
    rw [show ((i + 1 : Nat) : Int) = (i : Int) + 1 by omega] at this
    rcases this with ⟨h1, h2⟩ | ⟨h1, h2⟩
    ·refine .inl ⟨h1, fun j q1 q2 => ?_⟩
     rcases Nat.eq_or_lt_of_le q1 with rfl | q1
     ·exact hp
     ·exact h2 j q1 q2
    ·exact .inr ⟨h1, fun h => h2 fun j q1 q2 => h j (by omega) q2⟩
   ·exact .inr ⟨he, fun h => hp (h i (Nat.le_refl _) (by omega))⟩
 have := key n 0 K (by omega) hn
 rw [show ((0 : Nat) : Int) = 0 from rfl] at this
 rcases this with ⟨h1, h2⟩ | ⟨h1, h2⟩
 ·exact .inl ⟨h1, fun i hi => h2 i (Nat.zero_le _) hi⟩
 ·exact .inr ⟨h1, fun h => h2 fun j _ hj => h j hj⟩
theorem lexName_spec (K : Nat) (hK : 1000 ≤ K) (s : ByteArray) : ∃ b, P8 K s = some b ∧ (b = true ↔ nameP s) := by
 unfold P8 nameP
 by_cases h1 : s = (⟨#[]⟩ : ByteArray)
 ·rw [if_pos h1]; refine ⟨_, rfl, ?_⟩
  subst h1
  simp only [Bool.false_eq_true, false_iff]
  exact fun h => absurd h.1 (by decide)
 rw [if_neg h1]
 by_cases h2 : 32 < (s.size : Int)
 ·rw [if_pos h2]; exact ⟨_, rfl, by simp; omega⟩
 rw [if_neg h2]
 have h0 : 0 < (s.size : Int) := by
  rcases Nat.eq_zero_or_pos s.size with h | h
  ·exfalso; apply h1
   apply ByteArray.ext
   exact Array.eq_empty_of_size_eq_zero h
  ·omega
 by_cases h3 : s = (⟨#[115, 116, 97, 114, 116]⟩ : ByteArray)
 ·rw [if_pos h3]; exact ⟨_, rfl, by simp [h3]⟩
 rw [if_neg h3, if_pos h0]
 obtain ⟨b, hb, hl⟩ := letter_spec K (bt s 0)
 rw [hb, Option.bind_some]
 cases b with
 | false => exact ⟨false, rfl, by simp only [Bool.false_eq_true, false_iff]; exact fun h => absurd (hl.2 h.2.2.2.1) (by decide)⟩
 | true =>
  rw [if_neg (by decide)]
  rcases ask_all (n := s.size) (K := K) (L := P8.l0 K s) (p := fun i => moreP (bt s (i : Int))) (by omega) (fun m i hi => by
   obtain ⟨q, hq, hm⟩ := more_spec K (bt s (i : Int))
   simp only [P8.l0]
   rw [if_pos (by omega), if_pos (Int.natCast_nonneg i), hq, Option.bind_some, wr (a := (i : Int) + 1) (by omega) (by omega)]
   cases q with
   | true => exact .inl ⟨hm.1 rfl, rfl⟩
   | false => exact .inr ⟨fun h => absurd (hm.2 h) (by decide), rfl⟩) (fun m => by simp only [P8.l0]; rw [if_neg (by omega)]) with ⟨h4, h5⟩ | ⟨h4, h5⟩
  ·rw [h4]; exact ⟨true, rfl, by simp only [true_iff]; exact ⟨by omega, by omega, h3, hl.1 rfl, h5⟩⟩
  ·rw [h4]; exact ⟨false, rfl, by simp only [Bool.false_eq_true, false_iff]; exact fun h => h5 h.2.2.2.2⟩
def namesP (ns : List ByteArray) : Prop := 1 ≤ ns.length ∧ ns.length ≤ 64 ∧ (∀ s ∈ ns, nameP s) ∧ ns.Nodup
theorem mget_cons {κ ν : Type} [DecidableEq κ] {p : κ × ν} {es : List (κ × ν)} {q : κ} : mget (p :: es) q = if p.1 = q then some p.2 else mget es q := by
 unfold mget
 rw [List.find?_cons]
 by_cases h : p.1 = q <;> simp [h]
theorem mgetD_mput {κ : Type} [DecidableEq κ] {es : List (κ × Bool)} {k q : κ} : mgetD false (mput es k true) q = true ↔ q = k ∨ mgetD false es q = true := by
 unfold mgetD
 induction es with
 | nil =>
  rw [mput, mget_cons]
  by_cases h : k = q
  ·simp [h]
  ·simp [h, Ne.symm h, mget]
 | cons p es ih =>
  rw [mput]
  split
  ·rename_i h
   rw [mget_cons, mget_cons, h]
   by_cases h2 : k = q
   ·simp [h2]
   ·simp [h2, Ne.symm h2]
  ·rename_i h
   rw [mget_cons, mget_cons]
   by_cases h2 : p.1 = q
   ·simp only [if_pos h2, Option.getD_some]
    refine ⟨.inr, fun h3 => h3.elim (fun h4 => absurd (h2.trans h4) h) id⟩
   ·simp only [if_neg h2]
    exact ih
open Classical in
theorem names_run (es : List (ByteArray × Bool)) : ∀ ns : List ByteArray, ((∃ es', runL (fun es s => if nameP s then if mgetD false es s = true then .inr false else .inl (mput es s true) else .inr false) es ns = .inl es') ∧ (∀ s ∈ ns, nameP s) ∧ ns.Nodup ∧ ∀ s ∈ ns, ¬ mgetD false es s = true) ∨ (runL (fun es s => if nameP s then if mgetD false es s = true then .inr false else .inl (mput es s true) else .inr false) es ns = (.inr false : List (ByteArray × Bool) ⊕ Bool) ∧ ¬ ((∀ s ∈ ns, nameP s) ∧ ns.Nodup ∧ ∀ s ∈ ns, ¬ mgetD false es s = true))
 | [] => .inl ⟨⟨es, rfl⟩, by simp, List.nodup_nil, by simp⟩
 | s :: ns => by
  unfold runL
  by_cases h1 : nameP s
  ·by_cases h2 : mgetD false es s = true
   ·simp only [if_pos h1, if_pos h2]
    exact .inr ⟨trivial, fun h => h.2.2 s (.head _) h2⟩
   ·simp only [if_pos h1, if_neg h2]
    have hm : ∀ q, mgetD false (mput es s true) q = true ↔ q = s ∨ mgetD false es q = true := fun q => mgetD_mput
    rcases names_run (mput es s true) ns with ⟨h3, h4, h5, h6⟩ | ⟨h3, h4⟩
    ·refine .inl ⟨h3, fun q hq => ?_, List.nodup_cons.2 ⟨fun hs => h6 s hs ((hm s).2 (.inl rfl)), h5⟩, fun q hq => ?_⟩
     ·rcases List.mem_cons.1 hq with rfl | hq
      ·exact h1
      ·exact h4 q hq
     ·rcases List.mem_cons.1 hq with rfl | hq
      ·exact h2
      ·exact fun h => h6 q hq ((hm q).2 (.inr h))
    ·refine .inr ⟨h3, fun ⟨a1, a2, a3⟩ => h4 ⟨fun q hq => a1 q (.tail _ hq), (List.nodup_cons.1 a2).2, fun q hq h => ?_⟩⟩
     rcases (hm q).1 h with rfl | h
     ·exact (List.nodup_cons.1 a2).1 hq
     ·exact a3 q (.tail _ hq) h
  ·simp only [if_neg h1]
   exact .inr ⟨trivial, fun h => h1 (h.1 s (.head _))⟩
open Classical in
theorem names_spec (K : Nat) (hK : 1000 ≤ K) (ns : List ByteArray) : ∃ b, g8 K ns = some b ∧ (b = true ↔ namesP ns) := by
 unfold g8 namesP
 split
 ·exact ⟨_, rfl, by simp; omega⟩
 split
 ·exact ⟨_, rfl, by simp; omega⟩
 rename_i h1 h2
 have hs := scanL ns (g8.l0 K ns) (fun es s => if nameP s then if mgetD false es s = true then .inr false else .inl (mput es s true) else .inr false) (fun _ _ => True) (fun m s i hi _ => by
  obtain ⟨b, hb, hp⟩ := lexName_spec K hK (rd ns (i : Int))
  simp only [g8.l0]
  rw [if_pos (by omega), if_pos (Int.natCast_nonneg i), hb, Option.bind_some, wr (a := (i : Int) + 1) (by omega) (by omega)]
  cases b with
  | false => rw [if_pos (by decide), if_neg (fun h => absurd (hp.2 h) (by decide))]
  | true =>
   rw [if_neg (by decide), if_pos (hp.1 rfl)]
   split <;> rfl) (fun m s => by simp only [g8.l0]; rw [if_neg (by omega)]) (fun _ _ _ _ _ _ => trivial) K (by omega) [] trivial
 rw [hs]
 rcases names_run [] ns with ⟨⟨es', h3⟩, h4, h5, h6⟩ | ⟨h3, h4⟩
 ·rw [h3]; exact ⟨true, rfl, by simp only [true_iff]; exact ⟨by omega, by omega, h4, h5⟩⟩
 ·rw [h3]; exact ⟨false, rfl, by simp only [Bool.false_eq_true, false_iff]; exact fun h => h4 ⟨h.2.2.1, h.2.2.2, fun s _ h => by simp [mgetD, mget] at h⟩⟩
theorem nodup_rd (ns : List ByteArray) : ns.Nodup ↔ ∀ i, i < ns.length → ∀ j : Nat, j < i → rd ns (j : Int) ≠ rd ns (i : Int) := by
 have e : ∀ i (h : i < ns.length), rd ns (i : Int) = ns[i] := fun i h => by rw [rd_nat, List.getD_eq_getElem?_getD, List.getElem?_eq_getElem h]; rfl
 rw [List.Nodup, List.pairwise_iff_getElem]
 constructor
 ·intro h i hi j hj
  rw [e i hi, e j (by omega)]
  exact h j i (by omega) hi hj
 ·intro h i j hi hj hij
  have := h j hj i hij
  rwa [e i hi, e j hj] at this
end Go.Proofs.YtpjhcllohagjoaaGreat
namespace Go.Proofs.YtpjhcllohagjoaaGreat
open S
set_option linter.unusedVariables false
set_option linter.unusedSimpArgs false
set_option maxRecDepth 100000
def symP (s : Symbol) (n : Int) : Prop := (s.Name = -1 ∧ 0 ≤ s.Lo ∧ s.Lo ≤ s.Hi ∧ s.Hi ≤ 255) ∨ (0 ≤ s.Name ∧ s.Name < n ∧ s.Lo = 0 ∧ s.Hi = 0)
theorem symbol_spec (K : Nat) (s : Symbol) (n : Int) : ∃ b, ja K s n = some b ∧ (b = true ↔ symP s n) := by
 unfold ja symP
 repeat' split
 all_goals refine ⟨_, rfl, ?_⟩
 all_goals simp only [decide_eq_true_eq, Bool.false_eq_true, false_iff]
 all_goals omega
instance (s : Symbol) (n : Int) : Decidable (symP s n) := by unfold symP; infer_instance
def conjP (n : Int) (c : Conjunct) : Prop := c.Seq.length ≤ 64 ∧ ∀ s ∈ c.Seq, symP s n
instance (n : Int) (c : Conjunct) : Decidable (conjP n c) := by unfold conjP; infer_instance
def ruleP (n : Int) (r : Rule) : Prop := 1 ≤ r.Conj.length ∧ r.Conj.length ≤ 8 ∧ ∀ c ∈ r.Conj, conjP n c
instance (n : Int) (r : Rule) : Decidable (ruleP n r) := by unfold ruleP; infer_instance
def sumC : List Conjunct → Nat
 | [] => 0
 | c :: cs => c.Seq.length + sumC cs
def sumR (r : Rule) : Nat := sumC r.Conj
theorem all_rd {T : Type} [Inhabited T] {xs : List T} {p : T → Prop} : (∀ i, i < xs.length → p (rd xs (i : Int))) ↔ ∀ x ∈ xs, p x := by
 constructor
 ·intro h x hx
  obtain ⟨i, hi, rfl⟩ := List.getElem_of_mem hx
  have := h i hi
  rwa [rd_nat, List.getD_eq_getElem?_getD, List.getElem?_eq_getElem hi] at this
 ·intro h i hi
  exact h _ (rd_mem (Int.natCast_nonneg i) (by omega))
theorem ask_all2 {ρ : Type} {n K : Nat} {L : Nat → Int → Option (Int ⊕ ρ)} {p : Nat → Prop} {no : ρ} (hn : n < K) (step : ∀ m i, i < n → (p i ∧ L (m + 1) (i : Int) = L m ((i : Int) + 1)) ∨ (¬ p i ∧ L (m + 1) (i : Int) = some (.inr no)))
  (stop : ∀ m, L (m + 1) (n : Int) = some (.inl (n : Int))) : (L K 0 = some (.inl (n : Int)) ∧ ∀ i, i < n → p i) ∨ (L K 0 = some (.inr no) ∧ ¬ ∀ i, i < n → p i) := by
 have key : ∀ k i m, i + k = n → k < m → (L m (i : Int) = some (.inl (n : Int)) ∧ ∀ j, i ≤ j → j < n → p j) ∨ (L m (i : Int) = some (.inr no) ∧ ¬ ∀ j, i ≤ j → j < n → p j) := by
  intro k
  induction k with
  | zero =>
   intro i m hi hm
   obtain ⟨m, rfl⟩ : ∃ q, m = q + 1 := ⟨m - 1, by omega⟩
   have : i = n := by omega
   subst this
   exact .inl ⟨stop m, fun j h1 h2 => by omega⟩
  | succ k ih =>
   intro i m hi hm
   obtain ⟨m, rfl⟩ : ∃ q, m = q + 1 := ⟨m - 1, by omega⟩
   rcases step m i (by omega) with ⟨hp, he⟩ | ⟨hp, he⟩
   ·rw [he]
    have := ih (i + 1) m (by omega) (by omega)
    rw [show ((i + 1 : Nat) : Int) = (i : Int) + 1 by omega] at this
    rcases this with ⟨h1, h2⟩ | ⟨h1, h2⟩
    ·refine .inl ⟨h1, fun j q1 q2 => ?_⟩
     rcases Nat.eq_or_lt_of_le q1 with rfl | q1
     ·exact hp
     ·exact h2 j q1 q2
    ·exact .inr ⟨h1, fun h => h2 fun j q1 q2 => h j (by omega) q2⟩
   ·exact .inr ⟨he, fun h => hp (h i (Nat.le_refl _) (by omega))⟩
 have := key n 0 K (by omega) hn
 rw [show ((0 : Nat) : Int) = 0 from rfl] at this
 rcases this with ⟨h1, h2⟩ | ⟨h1, h2⟩
 ·exact .inl ⟨h1, fun i hi => h2 i (Nat.zero_le _) hi⟩
 ·exact .inr ⟨h1, fun h => h2 fun j _ hj => h j hj⟩
def ruleB (n : Int) (s : Int) (c : Conjunct) : Int ⊕ (Int × Bool) := if conjP n c then .inl (s + (c.Seq.length : Int)) else .inr (0, false)
theorem ruleB_run (n : Int) : ∀ (cs : List Conjunct) (s : Int), (runL (ruleB n) s cs = .inl (s + (sumC cs : Int)) ∧ ∀ c ∈ cs, conjP n c) ∨ (runL (ruleB n) s cs = .inr (0, false) ∧ ¬ ∀ c ∈ cs, conjP n c)
 | [], s => .inl ⟨by simp [runL, sumC], by simp⟩
 | c :: cs, s => by
  unfold runL ruleB
  by_cases h : conjP n c
  ·rw [if_pos h]
   rcases ruleB_run n cs (s + (c.Seq.length : Int)) with ⟨h1, h2⟩ | ⟨h1, h2⟩
   ·refine .inl ⟨?_, fun q hq => ?_⟩
    ·show runL (ruleB n) _ cs = _
     rw [h1, sumC]; push_cast; rw [Int.add_assoc]
    ·rcases List.mem_cons.1 hq with rfl | hq
     ·exact h
     ·exact h2 q hq
   ·exact .inr ⟨h1, fun h3 => h2 fun q hq => h3 q (.tail _ hq)⟩
  ·rw [if_neg h]; exact .inr ⟨rfl, fun h3 => h (h3 c (.head _))⟩
theorem sumC_le {n : Int} : ∀ {cs : List Conjunct}, (∀ c ∈ cs, conjP n c) → sumC cs ≤ 64 * cs.length
 | [], _ => by simp [sumC]
 | c :: cs, h => by
  have h1 := (h c (.head _)).1
  have h2 := sumC_le (cs := cs) fun q hq => h q (.tail _ hq)
  rw [sumC, List.length_cons]; omega
theorem rule_spec (K : Nat) (hK : 1000 ≤ K) (r : Rule) (n : Int) : (v6 K r n = some ((sumR r : Int), true) ∧ ruleP n r) ∨ (∃ q, v6 K r n = some (q, false) ∧ ¬ ruleP n r) := by
 unfold v6
 by_cases h1 : (r.Conj.length : Int) < 1
 ·rw [if_pos h1]; exact .inr ⟨_, rfl, fun h => by have := h.1; omega⟩
 rw [if_neg h1]
 by_cases h2 : 8 < (r.Conj.length : Int)
 ·rw [if_pos h2]; exact .inr ⟨_, rfl, fun h => by have := h.2.1; omega⟩
 rw [if_neg h2]
 have hs := scanL r.Conj (v6.l0 K r n) (ruleB n) (fun i s => 0 ≤ s ∧ s ≤ 64 * i) (fun m s i hi hI => by
  unfold ruleB
  simp only [v6.l0]
  rw [if_pos (by omega), if_pos (Int.natCast_nonneg i), wr (a := (i : Int) + 1) (by omega) (by omega)]
  by_cases h64 : 64 < ((rd r.Conj (i : Int)).Seq.length : Int)
  ·rw [if_pos h64, if_neg (fun h => by have := h.1; omega)]
  rw [if_neg h64, wr (by omega) (by omega)]
  rcases ask_all2 (n := (rd r.Conj (i : Int)).Seq.length) (K := K) (L := v6.l1 K r n i) (p := fun j => symP (rd (rd r.Conj (i : Int)).Seq (j : Int)) n) (by omega) (fun m j hj => by
   obtain ⟨b, hb, hp⟩ := symbol_spec K (⟨(rd ((rd r.Conj (i : Int)).Seq) (j : Int)).Name, (rd ((rd r.Conj (i : Int)).Seq) (j : Int)).Lo, (rd ((rd r.Conj (i : Int)).Seq) (j : Int)).Hi⟩ : Symbol) n
   simp only [v6.l1]
   rw [if_pos (by omega), if_pos (Int.natCast_nonneg j), hb, Option.bind_some, wr (a := (j : Int) + 1) (by omega) (by omega)]
   cases b with
   | true => exact .inl ⟨hp.1 rfl, rfl⟩
   | false => exact .inr ⟨fun h => absurd (hp.2 h) (by decide), rfl⟩) (fun m => by simp only [v6.l1]; rw [if_neg (by omega)]) with ⟨h4, h5⟩ | ⟨h4, h5⟩
  ·rw [h4, if_pos ⟨by omega, all_rd.1 h5⟩]; rfl
  ·rw [h4, if_neg (fun h => h5 (all_rd.2 h.2))]; rfl) (fun m s => by simp only [v6.l0]; rw [if_neg (by omega)]) (fun s i hi hI s' h => by
   unfold ruleB at h
   split at h
   ·rename_i hc
    cases h
    have := hc.1
    exact ⟨by omega, by push_cast; omega⟩
   ·cases h) K (by omega) 0 ⟨by omega, by omega⟩
 rw [hs]
 rcases ruleB_run n r.Conj 0 with ⟨h4, h5⟩ | ⟨h4, h5⟩
 ·rw [h4]; exact .inl ⟨by simp only [brk, Option.bind_some, Int.zero_add]; rfl, by omega, by omega, h5⟩
 ·rw [h4]; exact .inr ⟨0, rfl, fun h => h5 h.2.2⟩
def chainP (n : Int) : Int → List Rule → Prop
 | h, [] => h = n - 1
 | h, r :: rs => ruleP n r ∧ (r.Head = h ∨ r.Head = h + 1) ∧ chainP n r.Head rs
def total : List Rule → Nat
 | [] => 0
 | r :: rs => sumR r + total rs
def mayP (g : Grammar) : Prop := namesP g.Names ∧ 0 ≤ g.Start ∧ g.Start < (g.Names.length : Int) ∧ 1 ≤ g.Rules.length ∧ g.Rules.length ≤ 256 ∧ (rd g.Rules 0).Head = 0 ∧ chainP (g.Names.length : Int) (-1) g.Rules ∧ total g.Rules ≤ 1024
def gB (n : Int) (s : Int × Int) (r : Rule) : (Int × Int) ⊕ Bool := if ruleP n r then if r.Head < s.1 then .inr false else if s.1 + 1 < r.Head then .inr false else if 1024 < s.2 + (sumR r : Int) then .inr false else .inl (r.Head, s.2 + (sumR r : Int)) else .inr false
theorem gB_run (n : Int) : ∀ (rs : List Rule) (s : Int × Int), s.2 ≤ 1024 → ((∃ s', runL (gB n) s rs = .inl s' ∧ (s'.1 = n - 1 ↔ chainP n s.1 rs)) ∧ s.2 + (total rs : Int) ≤ 1024) ∨ (runL (gB n) s rs = .inr false ∧ ¬ (chainP n s.1 rs ∧ s.2 + (total rs : Int) ≤ 1024))
 | [], s, hs => .inl ⟨⟨s, rfl, Iff.rfl⟩, by simp [total]; omega⟩
 | r :: rs, s, hs => by
  unfold runL gB chainP total
  by_cases h1 : ruleP n r
  ·rw [if_pos h1]
   by_cases h2 : r.Head < s.1
   ·rw [if_pos h2]; exact .inr ⟨rfl, fun h => by have := h.1.2.1; omega⟩
   rw [if_neg h2]
   by_cases h3 : s.1 + 1 < r.Head
   ·rw [if_pos h3]; exact .inr ⟨rfl, fun h => by have := h.1.2.1; omega⟩
   rw [if_neg h3]
   by_cases h4 : 1024 < s.2 + (sumR r : Int)
   ·rw [if_pos h4]; exact .inr ⟨rfl, fun h => by have := h.2; push_cast at this; omega⟩
   rw [if_neg h4]
   rcases gB_run n rs (r.Head, s.2 + (sumR r : Int)) (by simp only; omega) with ⟨⟨s', h5, h6⟩, h7⟩ | ⟨h5, h6⟩
   ·refine .inl ⟨⟨s', h5, h6.trans ⟨fun h => ⟨h1, by omega, h⟩, fun h => h.2.2⟩⟩, ?_⟩
    simp only at h7; push_cast; omega
   ·refine .inr ⟨h5, fun h => h6 ⟨h.1.2.2, ?_⟩⟩
    have := h.2; push_cast at this; simp only; omega
  ·rw [if_neg h1]; exact .inr ⟨rfl, fun h => h1 h.1.1⟩
theorem sumR_le {n : Int} {r : Rule} (h : ruleP n r) : sumR r ≤ 512 := by
 have := sumC_le h.2.2
 have := h.2.1
 unfold sumR; omega
theorem gMay_spec (K : Nat) (hK : 1000 ≤ K) (g : Grammar) : ∃ b, c7 K g = some b ∧ (b = true ↔ mayP g) := by
 unfold c7 mayP
 obtain ⟨b, hb, hn⟩ := names_spec K hK g.Names
 rw [hb, Option.bind_some]
 cases b with
 | false => exact ⟨_, rfl, by simp only [Bool.false_eq_true, false_iff]; exact fun h => absurd (hn.2 h.1) (by decide)⟩
 | true =>
 rw [if_neg (by decide)]
 have hnm := hn.1 rfl
 by_cases h1 : g.Start < 0
 ·rw [if_pos h1]; exact ⟨_, rfl, by simp only [Bool.false_eq_true, false_iff]; exact fun h => by have := h.2.1; omega⟩
 rw [if_neg h1]
 by_cases h2 : (g.Names.length : Int) ≤ g.Start
 ·rw [if_pos h2]; exact ⟨_, rfl, by simp only [Bool.false_eq_true, false_iff]; exact fun h => by have := h.2.2.1; omega⟩
 rw [if_neg h2]
 by_cases h3 : (g.Rules.length : Int) < 1
 ·rw [if_pos h3]; exact ⟨_, rfl, by simp only [Bool.false_eq_true, false_iff]; exact fun h => by have := h.2.2.2.1; omega⟩
 rw [if_neg h3]
 by_cases h4 : 256 < (g.Rules.length : Int)
 ·rw [if_pos h4]; exact ⟨_, rfl, by simp only [Bool.false_eq_true, false_iff]; exact fun h => by have := h.2.2.2.2.1; omega⟩
 rw [if_neg h4]
 have hs := scanL (τ := Int × Int) (ρ := Bool) g.Rules (fun m s => (c7.l0 K g m (s.1.1, s.1.2, s.2)).map fun | .inl (a, b, c) => .inl ((a, b), c) | .inr r => .inr r) (gB (g.Names.length : Int)) (fun i s => -1 ≤ s.1 ∧ s.1 ≤ i ∧ 0 ≤ s.2 ∧ s.2 ≤ 1024) (fun m s i hi hI => by
  unfold gB
  simp only [c7.l0]
  rw [if_pos (by omega), if_pos (Int.natCast_nonneg i), wr (a := (i : Int) + 1) (by omega) (by omega)]
  rcases rule_spec K hK (rd g.Rules (i : Int)) (g.Names.length : Int) with ⟨h5, h6⟩ | ⟨q, h5, h6⟩
  ·have := sumR_le h6
   rw [h5, Option.bind_some, if_pos h6]
   simp only [Bool.not_true, Bool.false_eq_true, if_false]
   rw [wr (a := s.1 + 1) (by omega) (by omega), wr (a := s.2 + (sumR (rd g.Rules (i : Int)) : Int)) (by omega) (by omega)]
   repeat' split
   all_goals first | rfl | (rename_i h; cases h; done) | skip
   all_goals (rename_i h; cases h; rfl)
  ·rw [h5, Option.bind_some, if_neg h6]; rfl) (fun m s => by simp only [c7.l0]; rw [if_neg (by omega)]; rfl) (fun s i hi hI s' h => by
  unfold gB at h
  split at h
  ·split at h
   ·cases h
   ·split at h
    ·cases h
    ·split at h
     ·cases h
     ·cases h; exact ⟨by simp only; omega, by simp only; push_cast; omega, by simp only; omega, by simp only; omega⟩
  ·cases h) K (by omega) (-1, 0) ⟨by decide, by decide, by decide, by decide⟩
 have hpos : 0 < (g.Rules.length : Int) := by omega
 rcases gB_run (g.Names.length : Int) g.Rules (-1, 0) (by decide) with ⟨⟨s', h5, h6⟩, h7⟩ | ⟨h5, h6⟩
 ·rw [h5] at hs
  have e : ∃ c, c7.l0 K g K (-1, 0, 0) = some (.inl (s'.1, s'.2, c)) := by
   simp only at hs
   cases hl : c7.l0 K g K (-1, 0, 0) with
   | none => rw [hl] at hs; cases hs
   | some x =>
    rw [hl] at hs
    cases x with
    | inl x => obtain ⟨a, b, c⟩ := x; simp only [Option.map_some, Option.some.injEq, Sum.inl.injEq, Prod.mk.injEq] at hs; exact ⟨c, by rw [← hs.1]⟩
    | inr q => cases hs
  obtain ⟨c, hl⟩ := e
  rw [hl]
  simp only [brk, Option.bind_some]
  rw [if_pos hpos]
  have hn64 := hnm.2.1
  by_cases h8 : (rd g.Rules 0).Head = 0
  ·rw [if_pos h8]
   refine ⟨_, rfl, ?_⟩
   rw [decide_eq_true_eq, wr (by omega) (by omega), h6]
   simp only at h7
   exact ⟨fun h => ⟨hnm, by omega, by omega, by omega, by omega, h8, h, by omega⟩, fun h => h.2.2.2.2.2.2.1⟩
  ·rw [if_neg h8]
   exact ⟨_, rfl, by simp only [Bool.false_eq_true, false_iff]; exact fun h => h8 h.2.2.2.2.2.1⟩
 ·rw [h5] at hs
  have e : c7.l0 K g K (-1, 0, 0) = some (.inr false) := by
   simp only at hs
   cases hl : c7.l0 K g K (-1, 0, 0) with
   | none => rw [hl] at hs; cases hs
   | some x =>
    rw [hl] at hs
    cases x with
    | inl x => cases hs
    | inr q => cases hs; rfl
  rw [e]
  refine ⟨false, rfl, ?_⟩
  simp only [Bool.false_eq_true, false_iff]
  exact fun h => h6 ⟨h.2.2.2.2.2.2.1, by have := h.2.2.2.2.2.2.2; simp only; omega⟩
theorem chain_le {n : Int} : ∀ {rs : List Rule} {h : Int}, chainP n h rs → h ≤ n - 1
 | [], h, hc => by rw [chainP] at hc; omega
 | r :: rs, h, hc => by
  rw [chainP] at hc
  have := chain_le hc.2.2
  omega
def rB (n : Int) (s : Int × Int) (r : Rule) : (Int × Int) ⊕ Bool := if r.Head < 0 then .inr false else if r.Head ≠ s.1 ∧ r.Head ≠ s.1 + 1 then .inr false else if n ≤ r.Head then .inr false else if ruleP n r then .inl (r.Head, s.2 + (sumR r : Int)) else .inr false
theorem rB_run (n : Int) : ∀ (rs : List Rule) (s : Int × Int), 0 ≤ s.1 ∨ (∃ r rs', rs = r :: rs' ∧ (0 ≤ r.Head ∨ ¬ chainP n s.1 rs)) ∨ rs = [] → (∃ s', runL (rB n) s rs = .inl s' ∧ (s'.1 = n - 1 ↔ chainP n s.1 rs) ∧ s'.2 = s.2 + (total rs : Int)) ∨ (runL (rB n) s rs = .inr false ∧ (¬ chainP n s.1 rs))
 | [], s, hs => .inl ⟨s, rfl, Iff.rfl, by simp [total]⟩
 | r :: rs, s, hs => by
  unfold runL rB total
  by_cases h0 : r.Head < 0
  ·rw [if_pos h0]
   refine .inr ⟨rfl, fun h => ?_⟩
   rw [chainP] at h
   rcases hs with hs | ⟨r', rs', e, hs | hs⟩ | e
   ·omega
   ·cases e; omega
   ·cases e; exact hs (by rw [chainP]; exact h)
   ·cases e
  rw [if_neg h0]
  by_cases h2 : r.Head ≠ s.1 ∧ r.Head ≠ s.1 + 1
  ·rw [if_pos h2]; exact .inr ⟨rfl, fun h => by rw [chainP] at h; omega⟩
  rw [if_neg h2]
  by_cases h3 : n ≤ r.Head
  ·rw [if_pos h3]; exact .inr ⟨rfl, fun h => by rw [chainP] at h; have := chain_le h.2.2; omega⟩
  rw [if_neg h3]
  by_cases h1 : ruleP n r
  ·rw [if_pos h1]
   rcases rB_run n rs (r.Head, s.2 + (sumR r : Int)) (.inl (by simp only; omega)) with ⟨s', h5, h6, h7⟩ | ⟨h5, h6⟩
   ·refine .inl ⟨s', h5, h6.trans ?_, by rw [h7]; simp only; push_cast; omega⟩
    rw [chainP]
    exact ⟨fun h => ⟨h1, by omega, h⟩, fun h => h.2.2⟩
   ·exact .inr ⟨h5, fun h => h6 (by rw [chainP] at h; exact h.2.2)⟩
  ·rw [if_neg h1]; exact .inr ⟨rfl, fun h => by rw [chainP] at h; exact h1 h.1⟩
end Go.Proofs.YtpjhcllohagjoaaGreat
namespace Go.Proofs.YtpjhcllohagjoaaGreat
open S Go.Sort
set_option linter.unusedVariables false
set_option linter.unusedSimpArgs false
set_option maxRecDepth 100000
theorem first_any {α ρ β : Type} [Inhabited α] (xs : List α) (p : α → Bool) (r : ρ) (a : β) : (match firstOf (fun k => if p (rd xs (k : Int)) = true then some r else none) xs.length 0 with | some q => (.inr q : β ⊕ ρ) | none => .inl a) = if xs.any p = true then .inr r else .inl a := by
 cases hf : firstOf (fun k => if p (rd xs (k : Int)) = true then some r else none) xs.length 0 with
 | some q =>
  obtain ⟨j, _, hj, h3, _⟩ := firstOf_some hf
  split at h3
  ·rename_i he
   cases h3
   rw [if_pos (List.any_eq_true.2 ⟨_, rd_mem (Int.natCast_nonneg j) (by omega), he⟩)]
  ·cases h3
 | none =>
  rw [if_neg]
  intro hm
  obtain ⟨x, hx, hpx⟩ := List.any_eq_true.1 hm
  obtain ⟨j, hj, rfl⟩ := List.getElem_of_mem hx
  have := firstOf_none.1 hf j (by omega) (by omega)
  rw [rd_nat, List.getD_eq_getElem?_getD, List.getElem?_eq_getElem hj, Option.getD_some, if_pos hpx] at this
  cases this
theorem firstOf_no {ρ : Type} (k i : Nat) : firstOf (fun _ => (none : Option ρ)) k i = none := firstOf_none.2 fun _ _ _ => rfl
theorem reach_le : reachBytes = 140737488351232 := by decide
def SzG (g : Grammar) : Prop := g.Names.length * 16 ≤ 140737488351232 ∧ g.Rules.length * 32 ≤ 140737488351232 ∧ ∀ r ∈ g.Rules, r.Conj.length * 32 ≤ 140737488351232 ∧ ∀ c ∈ r.Conj, c.Seq.length * 24 ≤ 140737488351232
theorem SzG_wf {g : Grammar} (w : ke g) : SzG g := by
 obtain ⟨_, ⟨w1, _⟩, w2, w3⟩ := w
 rw [reach_le] at w1 w2
 refine ⟨w1, w2, fun r hr => ?_⟩
 obtain ⟨_, w4, w5⟩ := w3 r hr
 rw [reach_le] at w4
 refine ⟨w4, fun c hc => ?_⟩
 have w6 := (w5 c hc).2.1
 rw [reach_le] at w6
 exact w6
def KW : Nat := 140737488355328
theorem take_snoc {T : Type} [Inhabited T] {xs : List T} {i : Nat} (hi : i < xs.length) : xs.take i ++ [rd xs (i : Int)] = xs.take (i + 1) := by
 have e : rd xs (i : Int) = xs[i] := by rw [rd_nat, List.getD_eq_getElem?_getD, List.getElem?_eq_getElem hi]; rfl
 rw [e, List.take_append_getElem]
theorem scan_none {ρ : Type} {n K : Nat} {L : Nat → Int → Option (Int ⊕ ρ)} (hn : n < K) (step : ∀ m i, i < n → L (m + 1) (i : Int) = L m ((i : Int) + 1)) (stop : ∀ m, L (m + 1) (n : Int) = some (.inl (n : Int))) : L K 0 = some (.inl (n : Int)) := by
 have := scan n L (fun _ => none) (fun m i hi => step m i hi) stop n 0 K (by omega) hn
 rw [show ((0 : Nat) : Int) = 0 from rfl, firstOf_no] at this
 exact this
def needC (b : Int) (neg : Bool) (c : Conjunct) : Bool := decide (c.Neg = neg) && c.Seq.any fun s => decide (s.Name = b)
def needR (a b : Int) (neg : Bool) (r : Rule) : Bool := decide (r.Head = a) && r.Conj.any (needC b neg)
def need (g : Grammar) (a b : Int) (neg : Bool) : Bool := g.Rules.any (needR a b neg)
def refB (g : Grammar) (a b : Nat) : List Edge := (if need g a b false = true then [(⟨a, b, false⟩ : Edge)] else []) ++ (if need g a b true = true then [(⟨a, b, true⟩ : Edge)] else [])
def refA (g : Grammar) (n a : Nat) : List Edge := (List.range n).flatMap (refB g a)
def refL (g : Grammar) : List Edge := (List.range g.Names.length).flatMap (refA g g.Names.length)
theorem refB_len (g : Grammar) (a b : Nat) : (refB g a b).length ≤ 2 := by
 unfold refB
 split <;> split <;> simp
theorem appLoop {T : Type} {n c B : Nat} {L : Nat → List T × Int → Option (List T × Int)} (f : Nat → List T) (hf : ∀ i, (f i).length ≤ c) (step : ∀ m s i, i < n → s.length + c ≤ B → L (m + 1) (s, (i : Int)) = L m (s ++ f i, (i : Int) + 1))
  (stop : ∀ m s, L (m + 1) (s, (n : Int)) = some (s, (n : Int))) (m : Nat) (hm : n < m) (s : List T) (hs : s.length + n * c ≤ B) : L m (s, 0) = some (s ++ (List.range n).flatMap f, (n : Int)) := by
 have key : ∀ k i s m, i + k = n → k < m → s.length + k * c ≤ B → L m (s, (i : Int)) = some (s ++ (List.range' i k).flatMap f, (n : Int)) := by
  intro k
  induction k with
  | zero =>
   intro i s m hi hm hs
   obtain ⟨m, rfl⟩ : ∃ q, m = q + 1 := ⟨m - 1, by omega⟩
   have : i = n := by omega
   subst this
   rw [stop]; simp
  | succ k ih =>
   intro i s m hi hm hs
   obtain ⟨m, rfl⟩ : ∃ q, m = q + 1 := ⟨m - 1, by omega⟩
   rw [Nat.add_mul] at hs
   have hfi := hf i
   rw [step m s i (by omega) (by omega), List.range'_succ, List.flatMap_cons, ← List.append_assoc]
   have := ih (i + 1) (s ++ f i) m (by omega) (by omega) (by rw [List.length_append]; omega)
   simpa using this
 have := key n 0 s m (by omega) hm hs
 rw [List.range_eq_range']
 simpa using this
theorem refA_len (g : Grammar) (n a : Nat) : (refA g n a).length ≤ 2 * n := by
 unfold refA
 have : ∀ (l : List Nat), (l.flatMap (refB g a)).length ≤ 2 * l.length := by
  intro l
  induction l with
  | nil => simp
  | cons x l ih =>
   have := refB_len g a x
   rw [List.flatMap_cons, List.length_append, List.length_cons]; omega
 simpa using this (List.range n)
theorem chain_mem {n : Int} : ∀ {rs : List Rule} {h : Int}, chainP n h rs → ∀ r ∈ rs, h ≤ r.Head ∧ r.Head ≤ n - 1 ∧ ruleP n r
 | [], h, hc, r, hr => by cases hr
 | q :: rs, h, hc, r, hr => by
  rw [chainP] at hc
  have hl := chain_le hc.2.2
  rcases List.mem_cons.1 hr with rfl | hr
  ·exact ⟨by omega, hl, hc.1⟩
  ·have := chain_mem hc.2.2 r hr
   exact ⟨by omega, this.2.1, this.2.2⟩
theorem may_heads {g : Grammar} (h : mayP g) : ∀ r ∈ g.Rules, 0 ≤ r.Head ∧ r.Head < (g.Names.length : Int) ∧ ruleP (g.Names.length : Int) r := by
 obtain ⟨_, _, _, h1, _, h2, h3, _⟩ := h
 cases hr : g.Rules with
 | nil => rw [hr] at h1; simp at h1
 | cons r0 rs =>
  rw [hr] at h2 h3
  have h4 : r0.Head = 0 := h2
  rw [chainP] at h3
  intro r hm
  have hl := chain_le h3.2.2
  rcases List.mem_cons.1 hm with rfl | hm
  ·exact ⟨by omega, by omega, h3.1⟩
  ·have := chain_mem h3.2.2 r hm
   exact ⟨by omega, by omega, this.2.2⟩
theorem may_bd {g : Grammar} (h : mayP g) : Bd g := ⟨h.2.2.2.2.1, fun r hr => ⟨(may_heads h r hr).2.2.2.1, fun c hc => ((may_heads h r hr).2.2.2.2 c hc).1⟩⟩
theorem occ_bounds {g : Grammar} (h : mayP g) {e : Edge} (ho : Occ g e) : 0 ≤ e.From ∧ e.From < (g.Names.length : Int) ∧ 0 ≤ e.To ∧ e.To < (g.Names.length : Int) := by
 obtain ⟨r, hr, c, hc, s, hs, h0, rfl⟩ := ho
 have h1 := may_heads h r hr
 have h2 := (h1.2.2.2.2 c hc).2 s hs
 refine ⟨h1.1, h1.2.1, h0, ?_⟩
 show s.Name < _
 rcases h2 with h2 | h2 <;> omega
theorem need_occ (g : Grammar) (a b : Int) (neg : Bool) (hb : 0 ≤ b) : need g a b neg = true ↔ Occ g ⟨a, b, neg⟩ := by
 unfold need needR needC Occ OccR OccC OccS
 simp only [List.any_eq_true, Bool.and_eq_true, decide_eq_true_eq, eOf, Edge.mk.injEq]
 constructor
 ·rintro ⟨r, hr, h1, c, hc, h2, s, hs, h3⟩
  exact ⟨r, hr, c, hc, s, hs, by omega, h1.symm, h3.symm, h2.symm⟩
 ·rintro ⟨r, hr, c, hc, s, hs, h0, h1, h3, h2⟩
  exact ⟨r, hr, h1.symm, c, hc, h2.symm, s, hs, h3.symm⟩
theorem mem_refB {g : Grammar} {a b : Nat} {e : Edge} : e ∈ refB g a b ↔ e.From = a ∧ e.To = b ∧ Occ g e := by
 have h0 := need_occ g a b false (Int.natCast_nonneg b)
 have h1 := need_occ g a b true (Int.natCast_nonneg b)
 unfold refB
 rw [List.mem_append]
 obtain ⟨x, y, neg⟩ := e
 constructor
 ·rintro (h | h)
  ·split at h
   ·rename_i hn
    rw [List.mem_singleton] at h; cases h; exact ⟨rfl, rfl, h0.1 hn⟩
   ·cases h
  ·split at h
   ·rename_i hn
    rw [List.mem_singleton] at h; cases h; exact ⟨rfl, rfl, h1.1 hn⟩
   ·cases h
 ·rintro ⟨e1, e2, ho⟩
  simp only at e1 e2
  subst e1 e2
  cases neg with
  | false => rw [if_pos (h0.2 ho)]; exact .inl (.head _)
  | true => rw [if_pos (h1.2 ho)]; exact .inr (.head _)
theorem mem_refL {g : Grammar} (h : mayP g) {e : Edge} : e ∈ refL g ↔ Occ g e := by
 unfold refL refA
 simp only [List.mem_flatMap, List.mem_range, mem_refB]
 constructor
 ·rintro ⟨a, _, b, _, _, _, ho⟩; exact ho
 ·intro ho
  have := occ_bounds h ho
  exact ⟨e.From.toNat, by omega, e.To.toNat, by omega, by omega, by omega, ho⟩
def eLt (a b : Edge) : Prop := a.From < b.From ∨ (a.From = b.From ∧ (a.To < b.To ∨ (a.To = b.To ∧ a.Neg = false ∧ b.Neg = true)))
theorem refL_sorted (g : Grammar) : (refL g).Pairwise eLt := by
 unfold refL
 refine List.pairwise_flatMap.2 ⟨fun a _ => ?_, List.pairwise_lt_range.imp fun {a a'} hlt x hx y hy => ?_⟩
 ·unfold refA
  refine List.pairwise_flatMap.2 ⟨fun b _ => ?_, List.pairwise_lt_range.imp fun {b b'} hlt x hx y hy => ?_⟩
  ·unfold refB
   split <;> split <;> simp [eLt]
  ·have h1 := mem_refB.1 hx
   have h2 := mem_refB.1 hy
   exact .inr ⟨by rw [h1.1, h2.1], .inl (by rw [h1.2.1, h2.2.1]; omega)⟩
 ·unfold refA at hx hy
  simp only [List.mem_flatMap] at hx hy
  obtain ⟨b, _, hx⟩ := hx
  obtain ⟨b', _, hy⟩ := hy
  have h1 := mem_refB.1 hx
  have h2 := mem_refB.1 hy
  exact .inl (by rw [h1.1, h2.1]; omega)
theorem edgesOf_pairwise (g : Grammar) : (edgesOf g).Pairwise fun x y => (!(ltOf rowC y x)) = true := by
 refine List.pairwise_mergeSort (fun a b c h1 h2 => ?_) (fun a b => ?_) _
 ·have := rowC_swo.ntrans c b a (by simpa using h2) (by simpa using h1)
  simpa using this
 ·by_cases h : ltOf rowC b a = true
  ·have : ltOf rowC a b = false := by
    cases hab : ltOf rowC a b with
    | false => rfl
    | true => have := rowC_swo.trans _ _ _ h hab; rw [rowC_swo.irrefl] at this; cases this
   simp [this]
  ·simp [h]
theorem edgesOf_is (g : Grammar) {es : List Edge} (hs : es.Pairwise eLt) (hm : ∀ e, e ∈ es ↔ Occ g e) : edgesOf g = es := by
 refine perm_unique (r := fun x y => (!(ltOf rowC y x)) = true) (fun x y h1 h2 => rowC_anti _ _ (by simpa using h2) (by simpa using h1)) ?_ (edgesOf_pairwise g) (hs.imp fun {x y} h => ?_)
 ·refine (List.perm_ext_iff_of_nodup (edges_nodup g) (hs.imp fun {x y} h e => ?_)).2 fun e => by rw [mem_edges, hm]
  subst e
  have := (rowC_lt x x).2 h
  rw [rowC_swo.irrefl] at this; cases this
 ·have h1 := (rowC_lt x y).2 h
  cases h2 : ltOf rowC y x with
  | false => rfl
  | true => have := rowC_swo.trans _ _ _ h1 h2; rw [rowC_swo.irrefl] at this; cases this
theorem edges_ref {g : Grammar} (h : mayP g) : edgesOf g = refL g := edgesOf_is g (refL_sorted g) fun e => mem_refL h
end Go.Proofs.YtpjhcllohagjoaaGreat

