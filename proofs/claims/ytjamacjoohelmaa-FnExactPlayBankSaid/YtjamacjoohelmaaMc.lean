/- The M-code of functions: what their code comes to, read at the heap. PRINTED by gen.py. -/
import Derived.Test.YtjamacjoohelmaaTab
namespace Go.Proofs.Ytjamacjoohelmaa.D
open Go Go.Proofs
set_option linter.unusedVariables false
set_option maxRecDepth 100000
/- 3: laws.FnExactPlayBank -/
def M_laws_FnExactPlayBank (ap0_1 : Option Addr) (np0_1 cp0_1 : Nat) (ap1_2 : Option Addr) (np1_2 cp1_2 : Nat) (h : Heap) (R : Value → Heap → Prop) : Prop :=
  (((decide ((((np0_1 : Nat) : Int) : Int) > 1048576)) = true →
    R (.bool true) h) ∧
  ((decide ((((np0_1 : Nat) : Int) : Int) > 1048576)) = false →
    CallsH PP fn_laws_szSnapStepS [.slice ap1_2 np1_2 cp1_2, .int .i64 1048576] h fun (v3 : Value) (h3 : Heap) =>
    ∃ (x25_4 : Int), v3 = .int .i64 x25_4 ∧
    (((decide ((x25_4 : Int) < 0)) = true →
      R (.bool true) h3) ∧
    ((decide ((x25_4 : Int) < 0)) = false →
      CallsH PP fn_laws_toIntS [.slice ap0_1 np0_1 cp0_1] h3 fun (v5 : Value) (h5 : Heap) =>
      ∃ (a30_6 : Option Addr) (n30_6 c30_6 : Nat), v5 = .slice a30_6 n30_6 c30_6 ∧
      CallsH PP fn_laws_toSnapStepS [.slice ap1_2 np1_2 cp1_2] h5 fun (v7 : Value) (h7 : Heap) =>
      ∃ (a32_8 : Option Addr) (n32_8 c32_8 : Nat), v7 = .slice a32_8 n32_8 c32_8 ∧
      CallsH PP fn_spec_PlayBank [.slice a30_6 n30_6 c30_6, .slice a32_8 n32_8 c32_8] h7 fun (v9 : Value) (h9 : Heap) =>
      ∃ (a33_0_0_10 : Option Addr) (n33_0_0_10 c33_0_0_10 : Nat) (a33_0_1_11 : Option Addr) (n33_0_1_11 c33_0_1_11 : Nat) (a33_0_2_12 : Option Addr) (n33_0_2_12 c33_0_2_12 : Nat) (a33_0_3_13 : Option Addr) (n33_0_3_13 c33_0_3_13 : Nat) (a33_0_4_14 : Option Addr) (n33_0_4_14 c33_0_4_14 : Nat), ∃ (a33_1_15 : Option Addr) (n33_1_15 c33_1_15 : Nat), ∃ (t33_2_16 : Bool), v9 = .tuple ⟨[.agg ⟨[.slice a33_0_0_10 n33_0_0_10 c33_0_0_10, .slice a33_0_1_11 n33_0_1_11 c33_0_1_11, .slice a33_0_2_12 n33_0_2_12 c33_0_2_12, .slice a33_0_3_13 n33_0_3_13 c33_0_3_13, .slice a33_0_4_14 n33_0_4_14 c33_0_4_14]⟩, .slice a33_1_15 n33_1_15 c33_1_15, .bool t33_2_16]⟩ ∧
      ∀ h17 : Heap, h17 = newRowH h9 ty_impl_Bank [.slice none 0 0, .slice none 0 0, .slice none 0 0, .slice none 0 0, .slice none 0 0] →
      ∃ (e18 : TypeId) (c18 : List Value), Row h17 h9.size e18 c18 ∧ 0 + 5 ≤ c18.length ∧
      ∀ h19 : Heap, h19 = putRow h17 h9.size e18 (splice c18 0 [.slice a33_0_0_10 n33_0_0_10 c33_0_0_10, .slice a33_0_1_11 n33_0_1_11 c33_0_1_11, .slice a33_0_2_12 n33_0_2_12 c33_0_2_12, .slice a33_0_3_13 n33_0_3_13 c33_0_3_13, .slice a33_0_4_14 n33_0_4_14 c33_0_4_14]) →
      CallsH PP fn_laws_toIntS [.slice ap0_1 np0_1 cp0_1] h19 fun (v20 : Value) (h20 : Heap) =>
      ∃ (a38_21 : Option Addr) (n38_21 c38_21 : Nat), v20 = .slice a38_21 n38_21 c38_21 ∧
      CallsH PP fn_laws_toSnapStepS [.slice ap1_2 np1_2 cp1_2] h20 fun (v22 : Value) (h22 : Heap) =>
      ∃ (a40_23 : Option Addr) (n40_23 c40_23 : Nat), v22 = .slice a40_23 n40_23 c40_23 ∧
      CallsH PP fn_impl_PlayBank [.slice a38_21 n38_21 c38_21, .slice a40_23 n40_23 c40_23] h22 fun (v24 : Value) (h24 : Heap) =>
      ∃ (a44_0_0_25 : Option Addr) (n44_0_0_25 c44_0_0_25 : Nat) (a44_0_1_26 : Option Addr) (n44_0_1_26 c44_0_1_26 : Nat) (a44_0_2_27 : Option Addr) (n44_0_2_27 c44_0_2_27 : Nat) (a44_0_3_28 : Option Addr) (n44_0_3_28 c44_0_3_28 : Nat) (a44_0_4_29 : Option Addr) (n44_0_4_29 c44_0_4_29 : Nat), ∃ (a44_1_30 : Option Addr) (n44_1_30 c44_1_30 : Nat), ∃ (t44_2_31 : Bool), v24 = .tuple ⟨[.agg ⟨[.slice a44_0_0_25 n44_0_0_25 c44_0_0_25, .slice a44_0_1_26 n44_0_1_26 c44_0_1_26, .slice a44_0_2_27 n44_0_2_27 c44_0_2_27, .slice a44_0_3_28 n44_0_3_28 c44_0_3_28, .slice a44_0_4_29 n44_0_4_29 c44_0_4_29]⟩, .slice a44_1_30 n44_1_30 c44_1_30, .bool t44_2_31]⟩ ∧
      ∀ h32 : Heap, h32 = newRowH h24 ty_impl_Bank [.slice none 0 0, .slice none 0 0, .slice none 0 0, .slice none 0 0, .slice none 0 0] →
      ∃ (e33 : TypeId) (c33 : List Value), Row h32 h24.size e33 c33 ∧ 0 + 5 ≤ c33.length ∧
      ∀ h34 : Heap, h34 = putRow h32 h24.size e33 (splice c33 0 [.slice a44_0_0_25 n44_0_0_25 c44_0_0_25, .slice a44_0_1_26 n44_0_1_26 c44_0_1_26, .slice a44_0_2_27 n44_0_2_27 c44_0_2_27, .slice a44_0_3_28 n44_0_3_28 c44_0_3_28, .slice a44_0_4_29 n44_0_4_29 c44_0_4_29]) →
      ∃ (a48_0_35 : Option Addr) (n48_0_35 c48_0_35 : Nat), cellAt h34 h24.size 0 = some (.slice a48_0_35 n48_0_35 c48_0_35) ∧
      ∃ (a48_1_36 : Option Addr) (n48_1_36 c48_1_36 : Nat), cellAt h34 h24.size 1 = some (.slice a48_1_36 n48_1_36 c48_1_36) ∧
      ∃ (a48_2_37 : Option Addr) (n48_2_37 c48_2_37 : Nat), cellAt h34 h24.size 2 = some (.slice a48_2_37 n48_2_37 c48_2_37) ∧
      ∃ (a48_3_38 : Option Addr) (n48_3_38 c48_3_38 : Nat), cellAt h34 h24.size 3 = some (.slice a48_3_38 n48_3_38 c48_3_38) ∧
      ∃ (a48_4_39 : Option Addr) (n48_4_39 c48_4_39 : Nat), cellAt h34 h24.size 4 = some (.slice a48_4_39 n48_4_39 c48_4_39) ∧
      ∃ (a49_0_40 : Option Addr) (n49_0_40 c49_0_40 : Nat), cellAt h34 h9.size 0 = some (.slice a49_0_40 n49_0_40 c49_0_40) ∧
      ∃ (a49_1_41 : Option Addr) (n49_1_41 c49_1_41 : Nat), cellAt h34 h9.size 1 = some (.slice a49_1_41 n49_1_41 c49_1_41) ∧
      ∃ (a49_2_42 : Option Addr) (n49_2_42 c49_2_42 : Nat), cellAt h34 h9.size 2 = some (.slice a49_2_42 n49_2_42 c49_2_42) ∧
      ∃ (a49_3_43 : Option Addr) (n49_3_43 c49_3_43 : Nat), cellAt h34 h9.size 3 = some (.slice a49_3_43 n49_3_43 c49_3_43) ∧
      ∃ (a49_4_44 : Option Addr) (n49_4_44 c49_4_44 : Nat), cellAt h34 h9.size 4 = some (.slice a49_4_44 n49_4_44 c49_4_44) ∧
      CallsH PP fn_laws_eqBank [.agg ⟨[.slice a48_0_35 n48_0_35 c48_0_35, .slice a48_1_36 n48_1_36 c48_1_36, .slice a48_2_37 n48_2_37 c48_2_37, .slice a48_3_38 n48_3_38 c48_3_38, .slice a48_4_39 n48_4_39 c48_4_39]⟩, .agg ⟨[.slice a49_0_40 n49_0_40 c49_0_40, .slice a49_1_41 n49_1_41 c49_1_41, .slice a49_2_42 n49_2_42 c49_2_42, .slice a49_3_43 n49_3_43 c49_3_43, .slice a49_4_44 n49_4_44 c49_4_44]⟩] h34 fun (v45 : Value) (h45 : Heap) =>
      ∃ (t50_46 : Bool), v45 = .bool t50_46 ∧
      (((!t50_46) = false →
        CallsH PP fn_laws_eqBoolS [.slice a44_1_30 n44_1_30 c44_1_30, .slice a33_1_15 n33_1_15 c33_1_15] h45 fun (v47 : Value) (h47 : Heap) =>
        ∃ (t55_48 : Bool), v47 = .bool t55_48 ∧
        (((!t55_48) = false →
          (((!(t44_2_31 == t33_2_16)) = true →
            R (.bool false) h47) ∧
          ((!(t44_2_31 == t33_2_16)) = false →
            CallsH PP fn_laws_toIntS [.slice ap0_1 np0_1 cp0_1] h47 fun (v49 : Value) (h49 : Heap) =>
            ∃ (a65_50 : Option Addr) (n65_50 c65_50 : Nat), v49 = .slice a65_50 n65_50 c65_50 ∧
            CallsH PP fn_laws_eqIntS [.slice a38_21 n38_21 c38_21, .slice a65_50 n65_50 c65_50] h49 fun (v51 : Value) (h51 : Heap) =>
            ∃ (t66_52 : Bool), v51 = .bool t66_52 ∧
            (((!t66_52) = true →
              R (.bool false) h51) ∧
            ((!t66_52) = false →
              CallsH PP fn_laws_toSnapStepS [.slice ap1_2 np1_2 cp1_2] h51 fun (v53 : Value) (h53 : Heap) =>
              ∃ (a70_54 : Option Addr) (n70_54 c70_54 : Nat), v53 = .slice a70_54 n70_54 c70_54 ∧
              CallsH PP fn_laws_eqSnapStepS [.slice a40_23 n40_23 c40_23, .slice a70_54 n70_54 c70_54] h53 fun (v55 : Value) (h55 : Heap) =>
              ∃ (t71_56 : Bool), v55 = .bool t71_56 ∧
              (((!t71_56) = true →
                R (.bool false) h55) ∧
              ((!t71_56) = false →
                CallsH PP fn_laws_markIntS [.slice a38_21 n38_21 c38_21, .int .i64 1] h55 fun (v57 : Value) (h57 : Heap) =>
                ∃ (x75_58 : Int), v57 = .int .i64 x75_58 ∧
                CallsH PP fn_laws_markSnapStepS [.slice a40_23 n40_23 c40_23, .int .i64 x75_58] h57 fun (v59 : Value) (h59 : Heap) =>
                ∃ (x78_60 : Int), v59 = .int .i64 x78_60 ∧
                (((decide ((x78_60 : Int) < 0)) = false →
                  ∃ (a82_0_61 : Option Addr) (n82_0_61 c82_0_61 : Nat), cellAt h59 h24.size 0 = some (.slice a82_0_61 n82_0_61 c82_0_61) ∧
                  ∃ (a82_1_62 : Option Addr) (n82_1_62 c82_1_62 : Nat), cellAt h59 h24.size 1 = some (.slice a82_1_62 n82_1_62 c82_1_62) ∧
                  ∃ (a82_2_63 : Option Addr) (n82_2_63 c82_2_63 : Nat), cellAt h59 h24.size 2 = some (.slice a82_2_63 n82_2_63 c82_2_63) ∧
                  ∃ (a82_3_64 : Option Addr) (n82_3_64 c82_3_64 : Nat), cellAt h59 h24.size 3 = some (.slice a82_3_64 n82_3_64 c82_3_64) ∧
                  ∃ (a82_4_65 : Option Addr) (n82_4_65 c82_4_65 : Nat), cellAt h59 h24.size 4 = some (.slice a82_4_65 n82_4_65 c82_4_65) ∧
                  ∃ (a83_0_66 : Option Addr) (n83_0_66 c83_0_66 : Nat), cellAt h59 h9.size 0 = some (.slice a83_0_66 n83_0_66 c83_0_66) ∧
                  ∃ (a83_1_67 : Option Addr) (n83_1_67 c83_1_67 : Nat), cellAt h59 h9.size 1 = some (.slice a83_1_67 n83_1_67 c83_1_67) ∧
                  ∃ (a83_2_68 : Option Addr) (n83_2_68 c83_2_68 : Nat), cellAt h59 h9.size 2 = some (.slice a83_2_68 n83_2_68 c83_2_68) ∧
                  ∃ (a83_3_69 : Option Addr) (n83_3_69 c83_3_69 : Nat), cellAt h59 h9.size 3 = some (.slice a83_3_69 n83_3_69 c83_3_69) ∧
                  ∃ (a83_4_70 : Option Addr) (n83_4_70 c83_4_70 : Nat), cellAt h59 h9.size 4 = some (.slice a83_4_70 n83_4_70 c83_4_70) ∧
                  CallsH PP fn_laws_eqBank [.agg ⟨[.slice a82_0_61 n82_0_61 c82_0_61, .slice a82_1_62 n82_1_62 c82_1_62, .slice a82_2_63 n82_2_63 c82_2_63, .slice a82_3_64 n82_3_64 c82_3_64, .slice a82_4_65 n82_4_65 c82_4_65]⟩, .agg ⟨[.slice a83_0_66 n83_0_66 c83_0_66, .slice a83_1_67 n83_1_67 c83_1_67, .slice a83_2_68 n83_2_68 c83_2_68, .slice a83_3_69 n83_3_69 c83_3_69, .slice a83_4_70 n83_4_70 c83_4_70]⟩] h59 fun (v71 : Value) (h71 : Heap) =>
                  ∃ (t84_72 : Bool), v71 = .bool t84_72 ∧
                  (((!t84_72) = false →
                    CallsH PP fn_laws_eqBoolS [.slice a44_1_30 n44_1_30 c44_1_30, .slice a33_1_15 n33_1_15 c33_1_15] h71 fun (v73 : Value) (h73 : Heap) =>
                    ∃ (t90_74 : Bool), v73 = .bool t90_74 ∧
                    (((!t90_74) = false →
                      (((!(t44_2_31 == t33_2_16)) = true →
                        R (.bool false) h73) ∧
                      ((!(t44_2_31 == t33_2_16)) = false →
                        ∃ (a98_0_75 : Option Addr) (n98_0_75 c98_0_75 : Nat), cellAt h73 h24.size 0 = some (.slice a98_0_75 n98_0_75 c98_0_75) ∧
                        ∃ (a98_1_76 : Option Addr) (n98_1_76 c98_1_76 : Nat), cellAt h73 h24.size 1 = some (.slice a98_1_76 n98_1_76 c98_1_76) ∧
                        ∃ (a98_2_77 : Option Addr) (n98_2_77 c98_2_77 : Nat), cellAt h73 h24.size 2 = some (.slice a98_2_77 n98_2_77 c98_2_77) ∧
                        ∃ (a98_3_78 : Option Addr) (n98_3_78 c98_3_78 : Nat), cellAt h73 h24.size 3 = some (.slice a98_3_78 n98_3_78 c98_3_78) ∧
                        ∃ (a98_4_79 : Option Addr) (n98_4_79 c98_4_79 : Nat), cellAt h73 h24.size 4 = some (.slice a98_4_79 n98_4_79 c98_4_79) ∧
                        CallsH PP fn_laws_markBank [.agg ⟨[.slice a98_0_75 n98_0_75 c98_0_75, .slice a98_1_76 n98_1_76 c98_1_76, .slice a98_2_77 n98_2_77 c98_2_77, .slice a98_3_78 n98_3_78 c98_3_78, .slice a98_4_79 n98_4_79 c98_4_79]⟩, .int .i64 1] h73 fun (v80 : Value) (h80 : Heap) =>
                        ∃ (x100_81 : Int), v80 = .int .i64 x100_81 ∧
                        CallsH PP fn_laws_markBoolS [.slice a44_1_30 n44_1_30 c44_1_30, .int .i64 x100_81] h80 fun (v82 : Value) (h82 : Heap) =>
                        ∃ (x103_83 : Int), v82 = .int .i64 x103_83 ∧
                        ∃ (a104_0_84 : Option Addr) (n104_0_84 c104_0_84 : Nat), cellAt h82 h24.size 0 = some (.slice a104_0_84 n104_0_84 c104_0_84) ∧
                        ∃ (a104_1_85 : Option Addr) (n104_1_85 c104_1_85 : Nat), cellAt h82 h24.size 1 = some (.slice a104_1_85 n104_1_85 c104_1_85) ∧
                        ∃ (a104_2_86 : Option Addr) (n104_2_86 c104_2_86 : Nat), cellAt h82 h24.size 2 = some (.slice a104_2_86 n104_2_86 c104_2_86) ∧
                        ∃ (a104_3_87 : Option Addr) (n104_3_87 c104_3_87 : Nat), cellAt h82 h24.size 3 = some (.slice a104_3_87 n104_3_87 c104_3_87) ∧
                        ∃ (a104_4_88 : Option Addr) (n104_4_88 c104_4_88 : Nat), cellAt h82 h24.size 4 = some (.slice a104_4_88 n104_4_88 c104_4_88) ∧
                        CallsH PP fn_laws_heldBank [.agg ⟨[.slice a104_0_84 n104_0_84 c104_0_84, .slice a104_1_85 n104_1_85 c104_1_85, .slice a104_2_86 n104_2_86 c104_2_86, .slice a104_3_87 n104_3_87 c104_3_87, .slice a104_4_88 n104_4_88 c104_4_88]⟩, .int .i64 1] h82 fun (v89 : Value) (h89 : Heap) =>
                        ∃ (x106_90 : Int), v89 = .int .i64 x106_90 ∧
                        (((decide ((x106_90 : Int) < 0)) = true →
                          R (.bool false) h89) ∧
                        ((decide ((x106_90 : Int) < 0)) = false →
                          CallsH PP fn_laws_heldBoolS [.slice a44_1_30 n44_1_30 c44_1_30, .int .i64 x106_90] h89 fun (v91 : Value) (h91 : Heap) =>
                          ∃ (x111_92 : Int), v91 = .int .i64 x111_92 ∧
                          (((decide ((x111_92 : Int) < 0)) = true →
                            R (.bool false) h91) ∧
                          ((decide ((x111_92 : Int) < 0)) = false →
                            ((((x111_92 : Int) != x103_83) = true →
                              R (.bool false) h91) ∧
                            (((x111_92 : Int) != x103_83) = false →
                              CallsH PP fn_laws_toIntS [.slice ap0_1 np0_1 cp0_1] h91 fun (v93 : Value) (h93 : Heap) =>
                              ∃ (a119_94 : Option Addr) (n119_94 c119_94 : Nat), v93 = .slice a119_94 n119_94 c119_94 ∧
                              CallsH PP fn_laws_toSnapStepS [.slice ap1_2 np1_2 cp1_2] h93 fun (v95 : Value) (h95 : Heap) =>
                              ∃ (a121_96 : Option Addr) (n121_96 c121_96 : Nat), v95 = .slice a121_96 n121_96 c121_96 ∧
                              CallsH PP fn_impl_PlayBank [.slice a119_94 n119_94 c119_94, .slice a121_96 n121_96 c121_96] h95 fun (v97 : Value) (h97 : Heap) =>
                              ∃ (a122_0_0_98 : Option Addr) (n122_0_0_98 c122_0_0_98 : Nat) (a122_0_1_99 : Option Addr) (n122_0_1_99 c122_0_1_99 : Nat) (a122_0_2_100 : Option Addr) (n122_0_2_100 c122_0_2_100 : Nat) (a122_0_3_101 : Option Addr) (n122_0_3_101 c122_0_3_101 : Nat) (a122_0_4_102 : Option Addr) (n122_0_4_102 c122_0_4_102 : Nat), ∃ (a122_1_103 : Option Addr) (n122_1_103 c122_1_103 : Nat), ∃ (t122_2_104 : Bool), v97 = .tuple ⟨[.agg ⟨[.slice a122_0_0_98 n122_0_0_98 c122_0_0_98, .slice a122_0_1_99 n122_0_1_99 c122_0_1_99, .slice a122_0_2_100 n122_0_2_100 c122_0_2_100, .slice a122_0_3_101 n122_0_3_101 c122_0_3_101, .slice a122_0_4_102 n122_0_4_102 c122_0_4_102]⟩, .slice a122_1_103 n122_1_103 c122_1_103, .bool t122_2_104]⟩ ∧
                              ∀ h105 : Heap, h105 = newRowH h97 ty_impl_Bank [.slice none 0 0, .slice none 0 0, .slice none 0 0, .slice none 0 0, .slice none 0 0] →
                              ∃ (e106 : TypeId) (c106 : List Value), Row h105 h97.size e106 c106 ∧ 0 + 5 ≤ c106.length ∧
                              ∀ h107 : Heap, h107 = putRow h105 h97.size e106 (splice c106 0 [.slice a122_0_0_98 n122_0_0_98 c122_0_0_98, .slice a122_0_1_99 n122_0_1_99 c122_0_1_99, .slice a122_0_2_100 n122_0_2_100 c122_0_2_100, .slice a122_0_3_101 n122_0_3_101 c122_0_3_101, .slice a122_0_4_102 n122_0_4_102 c122_0_4_102]) →
                              ∃ (a126_0_108 : Option Addr) (n126_0_108 c126_0_108 : Nat), cellAt h107 h97.size 0 = some (.slice a126_0_108 n126_0_108 c126_0_108) ∧
                              ∃ (a126_1_109 : Option Addr) (n126_1_109 c126_1_109 : Nat), cellAt h107 h97.size 1 = some (.slice a126_1_109 n126_1_109 c126_1_109) ∧
                              ∃ (a126_2_110 : Option Addr) (n126_2_110 c126_2_110 : Nat), cellAt h107 h97.size 2 = some (.slice a126_2_110 n126_2_110 c126_2_110) ∧
                              ∃ (a126_3_111 : Option Addr) (n126_3_111 c126_3_111 : Nat), cellAt h107 h97.size 3 = some (.slice a126_3_111 n126_3_111 c126_3_111) ∧
                              ∃ (a126_4_112 : Option Addr) (n126_4_112 c126_4_112 : Nat), cellAt h107 h97.size 4 = some (.slice a126_4_112 n126_4_112 c126_4_112) ∧
                              ∃ (a127_0_113 : Option Addr) (n127_0_113 c127_0_113 : Nat), cellAt h107 h9.size 0 = some (.slice a127_0_113 n127_0_113 c127_0_113) ∧
                              ∃ (a127_1_114 : Option Addr) (n127_1_114 c127_1_114 : Nat), cellAt h107 h9.size 1 = some (.slice a127_1_114 n127_1_114 c127_1_114) ∧
                              ∃ (a127_2_115 : Option Addr) (n127_2_115 c127_2_115 : Nat), cellAt h107 h9.size 2 = some (.slice a127_2_115 n127_2_115 c127_2_115) ∧
                              ∃ (a127_3_116 : Option Addr) (n127_3_116 c127_3_116 : Nat), cellAt h107 h9.size 3 = some (.slice a127_3_116 n127_3_116 c127_3_116) ∧
                              ∃ (a127_4_117 : Option Addr) (n127_4_117 c127_4_117 : Nat), cellAt h107 h9.size 4 = some (.slice a127_4_117 n127_4_117 c127_4_117) ∧
                              CallsH PP fn_laws_eqBank [.agg ⟨[.slice a126_0_108 n126_0_108 c126_0_108, .slice a126_1_109 n126_1_109 c126_1_109, .slice a126_2_110 n126_2_110 c126_2_110, .slice a126_3_111 n126_3_111 c126_3_111, .slice a126_4_112 n126_4_112 c126_4_112]⟩, .agg ⟨[.slice a127_0_113 n127_0_113 c127_0_113, .slice a127_1_114 n127_1_114 c127_1_114, .slice a127_2_115 n127_2_115 c127_2_115, .slice a127_3_116 n127_3_116 c127_3_116, .slice a127_4_117 n127_4_117 c127_4_117]⟩] h107 fun (v118 : Value) (h118 : Heap) =>
                              ∃ (t128_119 : Bool), v118 = .bool t128_119 ∧
                              (((!t128_119) = false →
                                CallsH PP fn_laws_eqBoolS [.slice a122_1_103 n122_1_103 c122_1_103, .slice a33_1_15 n33_1_15 c33_1_15] h118 fun (v120 : Value) (h120 : Heap) =>
                                ∃ (t133_121 : Bool), v120 = .bool t133_121 ∧
                                (((!t133_121) = false →
                                  (((!(t122_2_104 == t33_2_16)) = true →
                                    R (.bool false) h120) ∧
                                  ((!(t122_2_104 == t33_2_16)) = false →
                                    ∃ (a141_0_122 : Option Addr) (n141_0_122 c141_0_122 : Nat), cellAt h120 h24.size 0 = some (.slice a141_0_122 n141_0_122 c141_0_122) ∧
                                    ∃ (a141_1_123 : Option Addr) (n141_1_123 c141_1_123 : Nat), cellAt h120 h24.size 1 = some (.slice a141_1_123 n141_1_123 c141_1_123) ∧
                                    ∃ (a141_2_124 : Option Addr) (n141_2_124 c141_2_124 : Nat), cellAt h120 h24.size 2 = some (.slice a141_2_124 n141_2_124 c141_2_124) ∧
                                    ∃ (a141_3_125 : Option Addr) (n141_3_125 c141_3_125 : Nat), cellAt h120 h24.size 3 = some (.slice a141_3_125 n141_3_125 c141_3_125) ∧
                                    ∃ (a141_4_126 : Option Addr) (n141_4_126 c141_4_126 : Nat), cellAt h120 h24.size 4 = some (.slice a141_4_126 n141_4_126 c141_4_126) ∧
                                    CallsH PP fn_laws_heldBank [.agg ⟨[.slice a141_0_122 n141_0_122 c141_0_122, .slice a141_1_123 n141_1_123 c141_1_123, .slice a141_2_124 n141_2_124 c141_2_124, .slice a141_3_125 n141_3_125 c141_3_125, .slice a141_4_126 n141_4_126 c141_4_126]⟩, .int .i64 1] h120 fun (v127 : Value) (h127 : Heap) =>
                                    ∃ (x143_128 : Int), v127 = .int .i64 x143_128 ∧
                                    (((decide ((x143_128 : Int) < 0)) = true →
                                      R (.bool false) h127) ∧
                                    ((decide ((x143_128 : Int) < 0)) = false →
                                      CallsH PP fn_laws_heldBoolS [.slice a44_1_30 n44_1_30 c44_1_30, .int .i64 x143_128] h127 fun (v129 : Value) (h129 : Heap) =>
                                      ∃ (x148_130 : Int), v129 = .int .i64 x148_130 ∧
                                      (((decide ((x148_130 : Int) < 0)) = true →
                                        R (.bool false) h129) ∧
                                      ((decide ((x148_130 : Int) < 0)) = false →
                                        ((((x148_130 : Int) != x103_83) = true →
                                          R (.bool false) h129) ∧
                                        (((x148_130 : Int) != x103_83) = false →
                                          R (.bool true) h129))))))))) ∧
                                ((!t133_121) = true →
                                  R (.bool false) h120))) ∧
                              ((!t128_119) = true →
                                R (.bool false) h118))))))))))) ∧
                    ((!t90_74) = true →
                      R (.bool false) h73))) ∧
                  ((!t84_72) = true →
                    R (.bool false) h71))) ∧
                ((decide ((x78_60 : Int) < 0)) = true →
                  R (.bool false) h59))))))))) ∧
        ((!t55_48) = true →
          R (.bool false) h47))) ∧
      ((!t50_46) = true →
        R (.bool false) h45))))))
def plan_laws_FnExactPlayBank : Plan := .seq none (.leaf) (.seq none (.seq none (.leaf) (.cond (.seq none (.leaf) (.leaf)) (.leaf))) (.seq none (.leaf) (.seq none (.leaf) (.seq none (.seq none (.leaf) (.cond (.seq none (.leaf) (.leaf)) (.leaf))) (.seq none (.leaf) (.seq none (.leaf) (.seq none (.leaf) (.seq none (.leaf) (.seq none (.seq none (.leaf) (.cond (.seq none (.leaf) (.leaf)) (.leaf))) (.seq none (.seq none (.leaf) (.cond (.seq none (.leaf) (.leaf)) (.leaf))) (.seq none (.seq none (.leaf) (.cond (.seq none (.leaf) (.leaf)) (.leaf))) (.seq none (.leaf) (.seq none (.leaf) (.seq none (.leaf) (.seq none (.seq none (.leaf) (.cond (.seq none (.leaf) (.leaf)) (.leaf))) (.seq none (.leaf) (.seq none (.leaf) (.seq none (.leaf) (.seq none (.leaf) (.seq none (.leaf) (.seq none (.seq none (.leaf) (.cond (.seq none (.leaf) (.leaf)) (.leaf))) (.seq none (.leaf) (.seq none (.seq none (.leaf) (.cond (.seq none (.leaf) (.leaf)) (.leaf))) (.seq none (.seq none (.leaf) (.cond (.seq none (.leaf) (.leaf)) (.leaf))) (.seq none (.leaf) (.seq none (.seq none (.leaf) (.cond (.seq none (.leaf) (.leaf)) (.leaf))) (.seq none (.leaf) (.seq none (.leaf) (.seq none (.seq none (.leaf) (.cond (.seq none (.leaf) (.leaf)) (.leaf))) (.seq none (.leaf) (.seq none (.seq none (.leaf) (.cond (.seq none (.leaf) (.leaf)) (.leaf))) (.seq none (.seq none (.leaf) (.cond (.seq none (.leaf) (.leaf)) (.leaf))) (.seq none (.leaf) (.leaf))))))))))))))))))))))))))))))))))
theorem tie_laws_FnExactPlayBank : (fun (ap0_1 : Option Addr) (np0_1 cp0_1 : Nat) (ap1_2 : Option Addr) (np1_2 cp1_2 : Nat) (h : Heap) (R : Value → Heap → Prop) => denF X0 Try.f3 (bodyOf Try.f3) plan_laws_FnExactPlayBank [.l (.sl ap0_1 np0_1 cp0_1), .l (.sl ap1_2 np1_2 cp1_2)] h R) = M_laws_FnExactPlayBank := by kernel_rfl
theorem calls_laws_FnExactPlayBank (ap0_1 : Option Addr) (np0_1 cp0_1 : Nat) (ap1_2 : Option Addr) (np1_2 cp1_2 : Nat) {h : Heap} {R : Value → Heap → Prop} (hm : M_laws_FnExactPlayBank ap0_1 np0_1 cp0_1 ap1_2 np1_2 cp1_2 h R) : CallsH PP fn_laws_FnExactPlayBank [.slice ap0_1 np0_1 cp0_1, .slice ap1_2 np1_2 cp1_2] h R :=
  callsH_of X0ok Try.func3 (by kernel_rfl) plan_laws_FnExactPlayBank [.l (.sl ap0_1 np0_1 cp0_1), .l (.sl ap1_2 np1_2 cp1_2)] (Eq.mpr (congrFun (congrFun (congrFun (congrFun (congrFun (congrFun (congrFun (congrFun tie_laws_FnExactPlayBank ap0_1) np0_1) cp0_1) ap1_2) np1_2) cp1_2) h) R) hm)
end Go.Proofs.Ytjamacjoohelmaa.D
