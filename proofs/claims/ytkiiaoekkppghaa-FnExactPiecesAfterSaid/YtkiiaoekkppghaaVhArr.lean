/- A list of 81 values, written out. -/
import Derived.Test.YtkiiaoekkppghaaVhPw
namespace Go.VI
theorem list81 (l0 : List Value) (h : l0.length = 81) : ∃ u0 u1 u2 u3 u4 u5 u6 u7 u8 u9 u10 u11 u12 u13 u14 u15 u16 u17 u18 u19 u20 u21 u22 u23 u24 u25 u26 u27 u28 u29 u30 u31 u32 u33 u34 u35 u36 u37 u38 u39 u40 u41 u42 u43 u44 u45 u46 u47 u48 u49 u50 u51 u52 u53 u54 u55 u56 u57 u58 u59 u60 u61 u62 u63 u64 u65 u66 u67 u68 u69 u70 u71 u72 u73 u74 u75 u76 u77 u78 u79 u80, l0 = [u0, u1, u2, u3, u4, u5, u6, u7, u8, u9, u10, u11, u12, u13, u14, u15, u16, u17, u18, u19, u20, u21, u22, u23, u24, u25, u26, u27, u28, u29, u30, u31, u32, u33, u34, u35, u36, u37, u38, u39, u40, u41, u42, u43, u44, u45, u46, u47, u48, u49, u50, u51, u52, u53, u54, u55, u56, u57, u58, u59, u60, u61, u62, u63, u64, u65, u66, u67, u68, u69, u70, u71, u72, u73, u74, u75, u76, u77, u78, u79, u80] := by
  obtain ⟨u0, l1, rfl, h1⟩ := cons_of h
  obtain ⟨u1, l2, rfl, h2⟩ := cons_of h1
  obtain ⟨u2, l3, rfl, h3⟩ := cons_of h2
  obtain ⟨u3, l4, rfl, h4⟩ := cons_of h3
  obtain ⟨u4, l5, rfl, h5⟩ := cons_of h4
  obtain ⟨u5, l6, rfl, h6⟩ := cons_of h5
  obtain ⟨u6, l7, rfl, h7⟩ := cons_of h6
  obtain ⟨u7, l8, rfl, h8⟩ := cons_of h7
  obtain ⟨u8, l9, rfl, h9⟩ := cons_of h8
  obtain ⟨u9, l10, rfl, h10⟩ := cons_of h9
  obtain ⟨u10, l11, rfl, h11⟩ := cons_of h10
  obtain ⟨u11, l12, rfl, h12⟩ := cons_of h11
  obtain ⟨u12, l13, rfl, h13⟩ := cons_of h12
  obtain ⟨u13, l14, rfl, h14⟩ := cons_of h13
  obtain ⟨u14, l15, rfl, h15⟩ := cons_of h14
  obtain ⟨u15, l16, rfl, h16⟩ := cons_of h15
  obtain ⟨u16, l17, rfl, h17⟩ := cons_of h16
  obtain ⟨u17, l18, rfl, h18⟩ := cons_of h17
  obtain ⟨u18, l19, rfl, h19⟩ := cons_of h18
  obtain ⟨u19, l20, rfl, h20⟩ := cons_of h19
  obtain ⟨u20, l21, rfl, h21⟩ := cons_of h20
  obtain ⟨u21, l22, rfl, h22⟩ := cons_of h21
  obtain ⟨u22, l23, rfl, h23⟩ := cons_of h22
  obtain ⟨u23, l24, rfl, h24⟩ := cons_of h23
  obtain ⟨u24, l25, rfl, h25⟩ := cons_of h24
  obtain ⟨u25, l26, rfl, h26⟩ := cons_of h25
  obtain ⟨u26, l27, rfl, h27⟩ := cons_of h26
  obtain ⟨u27, l28, rfl, h28⟩ := cons_of h27
  obtain ⟨u28, l29, rfl, h29⟩ := cons_of h28
  obtain ⟨u29, l30, rfl, h30⟩ := cons_of h29
  obtain ⟨u30, l31, rfl, h31⟩ := cons_of h30
  obtain ⟨u31, l32, rfl, h32⟩ := cons_of h31
  obtain ⟨u32, l33, rfl, h33⟩ := cons_of h32
  obtain ⟨u33, l34, rfl, h34⟩ := cons_of h33
  obtain ⟨u34, l35, rfl, h35⟩ := cons_of h34
  obtain ⟨u35, l36, rfl, h36⟩ := cons_of h35
  obtain ⟨u36, l37, rfl, h37⟩ := cons_of h36
  obtain ⟨u37, l38, rfl, h38⟩ := cons_of h37
  obtain ⟨u38, l39, rfl, h39⟩ := cons_of h38
  obtain ⟨u39, l40, rfl, h40⟩ := cons_of h39
  obtain ⟨u40, l41, rfl, h41⟩ := cons_of h40
  obtain ⟨u41, l42, rfl, h42⟩ := cons_of h41
  obtain ⟨u42, l43, rfl, h43⟩ := cons_of h42
  obtain ⟨u43, l44, rfl, h44⟩ := cons_of h43
  obtain ⟨u44, l45, rfl, h45⟩ := cons_of h44
  obtain ⟨u45, l46, rfl, h46⟩ := cons_of h45
  obtain ⟨u46, l47, rfl, h47⟩ := cons_of h46
  obtain ⟨u47, l48, rfl, h48⟩ := cons_of h47
  obtain ⟨u48, l49, rfl, h49⟩ := cons_of h48
  obtain ⟨u49, l50, rfl, h50⟩ := cons_of h49
  obtain ⟨u50, l51, rfl, h51⟩ := cons_of h50
  obtain ⟨u51, l52, rfl, h52⟩ := cons_of h51
  obtain ⟨u52, l53, rfl, h53⟩ := cons_of h52
  obtain ⟨u53, l54, rfl, h54⟩ := cons_of h53
  obtain ⟨u54, l55, rfl, h55⟩ := cons_of h54
  obtain ⟨u55, l56, rfl, h56⟩ := cons_of h55
  obtain ⟨u56, l57, rfl, h57⟩ := cons_of h56
  obtain ⟨u57, l58, rfl, h58⟩ := cons_of h57
  obtain ⟨u58, l59, rfl, h59⟩ := cons_of h58
  obtain ⟨u59, l60, rfl, h60⟩ := cons_of h59
  obtain ⟨u60, l61, rfl, h61⟩ := cons_of h60
  obtain ⟨u61, l62, rfl, h62⟩ := cons_of h61
  obtain ⟨u62, l63, rfl, h63⟩ := cons_of h62
  obtain ⟨u63, l64, rfl, h64⟩ := cons_of h63
  obtain ⟨u64, l65, rfl, h65⟩ := cons_of h64
  obtain ⟨u65, l66, rfl, h66⟩ := cons_of h65
  obtain ⟨u66, l67, rfl, h67⟩ := cons_of h66
  obtain ⟨u67, l68, rfl, h68⟩ := cons_of h67
  obtain ⟨u68, l69, rfl, h69⟩ := cons_of h68
  obtain ⟨u69, l70, rfl, h70⟩ := cons_of h69
  obtain ⟨u70, l71, rfl, h71⟩ := cons_of h70
  obtain ⟨u71, l72, rfl, h72⟩ := cons_of h71
  obtain ⟨u72, l73, rfl, h73⟩ := cons_of h72
  obtain ⟨u73, l74, rfl, h74⟩ := cons_of h73
  obtain ⟨u74, l75, rfl, h75⟩ := cons_of h74
  obtain ⟨u75, l76, rfl, h76⟩ := cons_of h75
  obtain ⟨u76, l77, rfl, h77⟩ := cons_of h76
  obtain ⟨u77, l78, rfl, h78⟩ := cons_of h77
  obtain ⟨u78, l79, rfl, h79⟩ := cons_of h78
  obtain ⟨u79, l80, rfl, h80⟩ := cons_of h79
  obtain ⟨u80, l81, rfl, h81⟩ := cons_of h80
  obtain rfl := List.length_eq_zero_iff.1 h81
  exact ⟨_, _, _, _, _, _, _, _, _, _, _, _, _, _, _, _, _, _, _, _, _, _, _, _, _, _, _, _, _, _, _, _, _, _, _, _, _, _, _, _, _, _, _, _, _, _, _, _, _, _, _, _, _, _, _, _, _, _, _, _, _, _, _, _, _, _, _, _, _, _, _, _, _, _, _, _, _, _, _, _, _, rfl⟩

theorem act81 (a : Act) (h : a.tmps.size = 81) (hd : a.defers = []) {v1 v8 v9 v10 : Value} (h1 : a.tmps.getD 1 undef = v1) (h8 : a.tmps.getD 8 undef = v8) (h9 : a.tmps.getD 9 undef = v9) (h10 : a.tmps.getD 10 undef = v10) :
    ∃ u0 u2 u3 u4 u5 u6 u7 u11 u12 u13 u14 u15 u16 u17 u18 u19 u20 u21 u22 u23 u24 u25 u26 u27 u28 u29 u30 u31 u32 u33 u34 u35 u36 u37 u38 u39 u40 u41 u42 u43 u44 u45 u46 u47 u48 u49 u50 u51 u52 u53 u54 u55 u56 u57 u58 u59 u60 u61 u62 u63 u64 u65 u66 u67 u68 u69 u70 u71 u72 u73 u74 u75 u76 u77 u78 u79 u80, a = ⟨#[u0, v1, u2, u3, u4, u5, u6, u7, v8, v9, v10, u11, u12, u13, u14, u15, u16, u17, u18, u19, u20, u21, u22, u23, u24, u25, u26, u27, u28, u29, u30, u31, u32, u33, u34, u35, u36, u37, u38, u39, u40, u41, u42, u43, u44, u45, u46, u47, u48, u49, u50, u51, u52, u53, u54, u55, u56, u57, u58, u59, u60, u61, u62, u63, u64, u65, u66, u67, u68, u69, u70, u71, u72, u73, u74, u75, u76, u77, u78, u79, u80], []⟩ := by
  obtain ⟨⟨tl⟩, df⟩ := a
  obtain rfl : df = [] := hd
  obtain ⟨u0, u1, u2, u3, u4, u5, u6, u7, u8, u9, u10, u11, u12, u13, u14, u15, u16, u17, u18, u19, u20, u21, u22, u23, u24, u25, u26, u27, u28, u29, u30, u31, u32, u33, u34, u35, u36, u37, u38, u39, u40, u41, u42, u43, u44, u45, u46, u47, u48, u49, u50, u51, u52, u53, u54, u55, u56, u57, u58, u59, u60, u61, u62, u63, u64, u65, u66, u67, u68, u69, u70, u71, u72, u73, u74, u75, u76, u77, u78, u79, u80, rfl⟩ := list81 tl h
  obtain rfl : u1 = v1 := h1
  obtain rfl : u8 = v8 := h8
  obtain rfl : u9 = v9 := h9
  obtain rfl : u10 = v10 := h10
  exact ⟨_, _, _, _, _, _, _, _, _, _, _, _, _, _, _, _, _, _, _, _, _, _, _, _, _, _, _, _, _, _, _, _, _, _, _, _, _, _, _, _, _, _, _, _, _, _, _, _, _, _, _, _, _, _, _, _, _, _, _, _, _, _, _, _, _, _, _, _, _, _, _, _, _, _, _, _, _, rfl⟩
end Go.VI
