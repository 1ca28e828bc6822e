import Derived.Test.YtlmahcmmpfdglaaLxF
set_option linter.all false
namespace Go.Proofs.Ytlmahcmmpfdglaa
open Go Go.Ev
noncomputable section
noncomputable def de_Ai64_s_i64Z (v : AV) : Option (Int × List UInt8 × Int) := match v with
  | .agg [.int .i64 a0, .str a1, .int .i64 a2] => some (a0, a1, a2)
  | _ => none
theorem de_Ai64_s_i64Z_ok {v : AV} {a0 : Int} {a1 : List UInt8} {a2 : Int} (h : de_Ai64_s_i64Z v = some (a0, a1, a2)) : v = .agg [.int .i64 a0, .str a1, .int .i64 a2] := by
  unfold de_Ai64_s_i64Z at h
  split at h
  · cases h; rfl
  · cases h

noncomputable def lex_run_lex_wordy_j1100000 (R : Nat) (s95 : List UInt8) (i96 : Int) : Option (Bool) :=
  if (i96 < (List.length s95 : Int)) then
   Option.bind (idxS s95 i96) fun i100 =>
   Option.bind (xlex_wordy R i100) fun b101 =>
   some b101
  else
   some false
theorem lex_run_lex_wordy_j1100000_ok (R n : Nat) (s95 : List UInt8) (i96 : Int) (st97 : St) (r : Bool) (h : lex_run_lex_wordy_j1100000 R s95 i96 = some r) :
    Leads 25 (execK C0 (callK C0 ext1 R (n + 1)) 14 R none (codeAt C0.P 14 [1, 1, 0, 0, 0, 0, 0])) (modsOf (codeAt C0.P 14 [1, 1, 0, 0, 0, 0, 0])) [(0, (.str s95)), (2, (.func (.func 31) [] [])), (7, (.int .i64 i96))] st97 .normal [(19, .bool r)] st97 := by
  revert h
  unfold lex_run_lex_wordy_j1100000
  refine iteE (fun h98 => ?_) (fun h98 => ?_)
  · refine bindE fun i100 h99 => ?_
    refine bindE fun b101 h102 => ?_
    intro h
    obtain rfl := Option.some.inj h
    exact runO_ok (hs := [.run 3, .dec true, .run 4, .val (.int .u8 i100), .call (.bool b101) st97, .run 1]) (want := [19]) (by kernel_rfl) (.cons (xlex_wordy_ok_ext1 R n i100 st97 _ h102) <| .cons (idx_ok (k := .i64) (P := C0.P) (t := 9) (by kernel_rfl) h99) <| .cons (decide_eq_true h98) .nil)
  · intro h
    obtain rfl := Option.some.inj h
    exact runO_ok (hs := [.run 3, .dec false, .run 2]) (want := [19]) (by kernel_rfl) (.cons (decide_eq_false h98) .nil)

noncomputable def lex_run_lex_wordy_l1100 (R : Nat) (s83 : List UInt8) (i84 : Int) : Nat → Int → Option ((Int))
  | 0, _ => none
  | r + 1, i85 =>
    Option.bind (lex_run_lex_wordy_j1100000 R s83 i85) fun b104 =>
    if b104 = true then
     lex_run_lex_wordy_l1100 R s83 i84 r (IntKind.wrap .i64 (i85 + 1))
    else
     some i85
noncomputable def lex_run_lex_wordy_l1100_x (st : St) (o : (Int)) : AExit × List (Nat × AV) × St := match o with
  | a0 => ((.exit 0), [(7, .int .i64 a0)], st)
theorem lex_run_lex_wordy_l1100_ok (R n : Nat) (s83 : List UInt8) (i84 : Int) (st86 : St) : ∀ (r : Nat) (i85 : Int) (o : (Int)), lex_run_lex_wordy_l1100 R s83 i84 r i85 = some o →
    Leads 25 (loopK (fun fr k => execK C0 (callK C0 ext1 R (n + 1)) 14 R none (codeAt C0.P 14 [1, 1, 0, 0, 0]) fr k) r) (modsOf (codeAt C0.P 14 [1, 1, 0, 0, 0])) [(0, (.str s83)), (1, (.int .i64 i84)), (2, (.func (.func 31) [] [])), (7, (.int .i64 i85))] st86 (lex_run_lex_wordy_l1100_x st86 o).1 (lex_run_lex_wordy_l1100_x st86 o).2.1 (lex_run_lex_wordy_l1100_x st86 o).2.2 := by
  intro r
  induction r with
  | zero => intro i85 o h; exact nomatch h
  | succ r ih =>
    intro i85 o
    unfold lex_run_lex_wordy_l1100
    refine bindE fun b104 h103 => ?_
    refine iteE (fun h105 => ?_) (fun h105 => ?_)
    · subst h105
      intro h
      exact loop_more (runO_ok (hs := [.absG [0, 2, 7] .normal [(19, (.bool true))] st86, .run 3]) (want := [0, 1, 2, 7]) (by kernel_rfl) (.cons (lex_run_lex_wordy_j1100000_ok R n s83 i85 st86 _ h103) .nil)) (ih (IntKind.wrap .i64 (i85 + 1)) _ h)
    · obtain rfl := bF h105
      intro h
      obtain rfl := Option.some.inj h
      exact loop_done (runO_ok (hs := [.absG [0, 2, 7] .normal [(19, (.bool false))] st86]) (want := [7]) (by kernel_rfl) (.cons (lex_run_lex_wordy_j1100000_ok R n s83 i85 st86 _ h103) .nil)) (by kernel_rfl)

/- parchment/lex.run -/
def lex_run_lex_wordy_n : Nat := 14
noncomputable def lex_run_lex_wordy (R : Nat) (s57 : List UInt8) (i58 : Int) : Option (Int) :=
  Option.bind (lex_run_lex_wordy_l1100 R s57 i58 R i58) fun i107 =>
  some (IntKind.wrap .i64 (i107 - i58))
theorem lex_run_lex_wordy_ok (R n : Nat) (s57 : List UInt8) (i58 : Int) (st59 : St) (r : Int) (h : lex_run_lex_wordy R s57 i58 = some r) :
    CallsTo (callK C0 ext1 R (n + 2)) false 14 [(.str s57), (.int .i64 i58), (.func (.func 31) [] [])] st59 (.int .i64 r) st59 := by
  revert h
  unfold lex_run_lex_wordy
  refine bindE fun i107 h106 => ?_
  intro h
  obtain rfl := Option.some.inj h
  exact callO_ok (hs := [.run 3, .abs [0, 1, 2, 7] (.exit 0) [(7, (.int .i64 i107))] st59, .run 4]) (by kernel_rfl) (.cons (loop_leads (lex_run_lex_wordy_l1100_ok R n s57 i58 st59 R i58 _ h106)) .nil) (by kernel_rfl) (by kernel_rfl)

/- parchment/lex.named -/
def lex_named_n : Nat := 23
noncomputable def lex_named (R : Nat) (s2 : List UInt8) (i3 : Int) (st4 : St) : Option (Int × List UInt8 × Int × Int × St) :=
  Option.bind (lex_run_lex_wordy R s2 i3) fun i108 =>
  Option.bind (subS s2 i3 (IntKind.wrap .i64 (i3 + i108))) fun s111 =>
  Option.bind (storeAt C0.P (St.push (St.push st4 (.cells 33 true [(.int .i64 0), (.str []), (.int .i64 0)])) (.cells 33 true [(.int .i64 0), (.str []), (.int .i64 0)])) 33 (.ref (St.next (St.push st4 (.cells 33 true [(.int .i64 0), (.str []), (.int .i64 0)]))) 0) (.agg [(.int .i64 1), (.str s111), (.int .i64 i3)])) fun st113 =>
  Option.bind (loadAt C0.P st113 9 (.ref (St.next (St.push st4 (.cells 33 true [(.int .i64 0), (.str []), (.int .i64 0)]))) 1)) fun x115 =>
  Option.bind (avStr x115) fun s116 =>
  Option.bind (xlex_Key R s116) fun b118 =>
  if b118 = true then
   Option.bind (storeAt C0.P st113 3 (.ref (St.next (St.push st4 (.cells 33 true [(.int .i64 0), (.str []), (.int .i64 0)]))) 0) (.int .i64 2)) fun st122 =>
   Option.bind (loadAt C0.P st122 33 (.ref (St.next (St.push st4 (.cells 33 true [(.int .i64 0), (.str []), (.int .i64 0)]))) 0)) fun x124 =>
   Option.bind (de_Ai64_s_i64Z x124) fun (i125, s126, i127) =>
   Option.bind (storeAt C0.P st122 33 (.ref (St.next st4) 0) (.agg [(.int .i64 i125), (.str s126), (.int .i64 i127)])) fun st130 =>
   Option.bind (loadAt C0.P st130 33 (.ref (St.next st4) 0)) fun x132 =>
   Option.bind (de_Ai64_s_i64Z x132) fun (i133, s134, i135) =>
   some (i133, s134, i135, i108, st130)
  else
   Option.bind (xvalue_Name R s116) fun b137 =>
   if b137 = true then
    Option.bind (loadAt C0.P st113 33 (.ref (St.next (St.push st4 (.cells 33 true [(.int .i64 0), (.str []), (.int .i64 0)]))) 0)) fun x141 =>
    Option.bind (de_Ai64_s_i64Z x141) fun (i142, s143, i144) =>
    Option.bind (storeAt C0.P st113 33 (.ref (St.next st4) 0) (.agg [(.int .i64 i142), (.str s143), (.int .i64 i144)])) fun st147 =>
    Option.bind (loadAt C0.P st147 33 (.ref (St.next st4) 0)) fun x149 =>
    Option.bind (de_Ai64_s_i64Z x149) fun (i150, s151, i152) =>
    some (i150, s151, i152, i108, st147)
   else
    Option.bind (loadAt C0.P st113 33 (.ref (St.next (St.push st4 (.cells 33 true [(.int .i64 0), (.str []), (.int .i64 0)]))) 0)) fun x155 =>
    Option.bind (de_Ai64_s_i64Z x155) fun (i156, s157, i158) =>
    Option.bind (storeAt C0.P st113 33 (.ref (St.next st4) 0) (.agg [(.int .i64 i156), (.str s157), (.int .i64 i158)])) fun st161 =>
    Option.bind (loadAt C0.P st161 33 (.ref (St.next st4) 0)) fun x163 =>
    Option.bind (de_Ai64_s_i64Z x163) fun (i164, s165, i166) =>
    some (i164, s165, i166, 0, st161)
theorem lex_named_ok (R n : Nat) (s2 : List UInt8) (i3 : Int) (st4 : St) (r : Int × List UInt8 × Int × Int × St) (h : lex_named R s2 i3 st4 = some r) :
    CallsTo (callK C0 ext1 R (n + 3)) false 23 [(.str s2), (.int .i64 i3)] st4 (.tuple [(.agg [.int .i64 r.1, .str r.2.1, .int .i64 r.2.2.1]), (.int .i64 r.2.2.2.1)]) r.2.2.2.2 := by
  revert h
  unfold lex_named
  refine bindE fun i108 h109 => ?_
  refine bindE fun s111 h110 => ?_
  refine bindE fun st113 h112 => ?_
  refine bindE fun x115 h114 => ?_
  refine bindE fun s116 h117 => ?_
  obtain rfl := avStr_ok h117
  refine bindE fun b118 h119 => ?_
  refine iteE (fun h120 => ?_) (fun h120 => ?_)
  · subst h120
    refine bindE fun st122 h121 => ?_
    refine bindE fun x124 h123 => ?_
    refine bindE fun o h128 => ?_
    obtain ⟨i125, s126, i127⟩ := o
    obtain rfl := de_Ai64_s_i64Z_ok h128
    refine bindE fun st130 h129 => ?_
    refine bindE fun x132 h131 => ?_
    refine bindE fun o h136 => ?_
    obtain ⟨i133, s134, i135⟩ := o
    obtain rfl := de_Ai64_s_i64Z_ok h136
    intro h
    obtain rfl := Option.some.inj h
    exact callO_ok (hs := [.run 4, .call (.int .i64 i108) (St.push st4 (.cells 33 true [(.int .i64 0), (.str []), (.int .i64 0)])), .run 6, .val (.str s111), .run 3, .eff AV.undef st113, .run 1, .val (.str s116), .call (.bool true) st113, .run 2, .eff AV.undef st122, .val (.agg [(.int .i64 i125), (.str s126), (.int .i64 i127)]), .run 1, .eff AV.undef st130, .run 1, .val (.agg [(.int .i64 i133), (.str s134), (.int .i64 i135)])]) (by kernel_rfl) (.cons h131 <| .cons (sto_ok h129) <| .cons h123 <| .cons (sto_ok h121) <| .cons (xlex_Key_ok_ext1 R (n + 1) s116 st113 _ h119) <| .cons h114 <| .cons (sto_ok h112) <| .cons (sub11 (k := .i64) (k' := .i64) (P := C0.P) (t := 9) (by kernel_rfl) h110) <| .cons (lex_run_lex_wordy_ok R n s2 i3 (St.push st4 (.cells 33 true [(.int .i64 0), (.str []), (.int .i64 0)])) _ h109) .nil) (by kernel_rfl) (by kernel_rfl)
  · obtain rfl := bF h120
    refine bindE fun b137 h138 => ?_
    refine iteE (fun h139 => ?_) (fun h139 => ?_)
    · subst h139
      refine bindE fun x141 h140 => ?_
      refine bindE fun o h145 => ?_
      obtain ⟨i142, s143, i144⟩ := o
      obtain rfl := de_Ai64_s_i64Z_ok h145
      refine bindE fun st147 h146 => ?_
      refine bindE fun x149 h148 => ?_
      refine bindE fun o h153 => ?_
      obtain ⟨i150, s151, i152⟩ := o
      obtain rfl := de_Ai64_s_i64Z_ok h153
      intro h
      obtain rfl := Option.some.inj h
      exact callO_ok (hs := [.run 4, .call (.int .i64 i108) (St.push st4 (.cells 33 true [(.int .i64 0), (.str []), (.int .i64 0)])), .run 6, .val (.str s111), .run 3, .eff AV.undef st113, .run 1, .val (.str s116), .call (.bool false) st113, .run 2, .val (.str s116), .call (.bool true) st113, .run 2, .val (.agg [(.int .i64 i142), (.str s143), (.int .i64 i144)]), .run 1, .eff AV.undef st147, .run 1, .val (.agg [(.int .i64 i150), (.str s151), (.int .i64 i152)])]) (by kernel_rfl) (.cons h148 <| .cons (sto_ok h146) <| .cons h140 <| .cons (xvalue_Name_ok_ext1 R (n + 1) s116 st113 _ h138) <| .cons h114 <| .cons (xlex_Key_ok_ext1 R (n + 1) s116 st113 _ h119) <| .cons h114 <| .cons (sto_ok h112) <| .cons (sub11 (k := .i64) (k' := .i64) (P := C0.P) (t := 9) (by kernel_rfl) h110) <| .cons (lex_run_lex_wordy_ok R n s2 i3 (St.push st4 (.cells 33 true [(.int .i64 0), (.str []), (.int .i64 0)])) _ h109) .nil) (by kernel_rfl) (by kernel_rfl)
    · obtain rfl := bF h139
      refine bindE fun x155 h154 => ?_
      refine bindE fun o h159 => ?_
      obtain ⟨i156, s157, i158⟩ := o
      obtain rfl := de_Ai64_s_i64Z_ok h159
      refine bindE fun st161 h160 => ?_
      refine bindE fun x163 h162 => ?_
      refine bindE fun o h167 => ?_
      obtain ⟨i164, s165, i166⟩ := o
      obtain rfl := de_Ai64_s_i64Z_ok h167
      intro h
      obtain rfl := Option.some.inj h
      exact callO_ok (hs := [.run 4, .call (.int .i64 i108) (St.push st4 (.cells 33 true [(.int .i64 0), (.str []), (.int .i64 0)])), .run 6, .val (.str s111), .run 3, .eff AV.undef st113, .run 1, .val (.str s116), .call (.bool false) st113, .run 2, .val (.str s116), .call (.bool false) st113, .run 2, .val (.agg [(.int .i64 i156), (.str s157), (.int .i64 i158)]), .eff AV.undef st161, .run 1, .val (.agg [(.int .i64 i164), (.str s165), (.int .i64 i166)])]) (by kernel_rfl) (.cons h162 <| .cons (sto_ok h160) <| .cons h154 <| .cons (xvalue_Name_ok_ext1 R (n + 1) s116 st113 _ h138) <| .cons h114 <| .cons (xlex_Key_ok_ext1 R (n + 1) s116 st113 _ h119) <| .cons h114 <| .cons (sto_ok h112) <| .cons (sub11 (k := .i64) (k' := .i64) (P := C0.P) (t := 9) (by kernel_rfl) h110) <| .cons (lex_run_lex_wordy_ok R n s2 i3 (St.push st4 (.cells 33 true [(.int .i64 0), (.str []), (.int .i64 0)])) _ h109) .nil) (by kernel_rfl) (by kernel_rfl)

noncomputable def xlex_named (R : Nat) (a0 : List UInt8) (a1 : Int) : Option (Int × List UInt8 × Int × Int) := (lex_named 2000000 a0 a1 St.empty).map fun r => (r.1, r.2.1, r.2.2.1, r.2.2.2.1)
noncomputable def xlex_named_t (args : List AV) : Option AV := match args with
  | [.str a0, .int .i64 a1] => (xlex_named 0 a0 a1).map fun r => (.tuple [(.agg [.int .i64 r.1, .str r.2.1, .int .i64 r.2.2.1]), (.int .i64 r.2.2.2)])
  | _ => none
theorem xlex_named_c : Tellable C0 ext1 (23, xlex_named_t) := by
  intro args v h0
  have h : xlex_named_t args = some v := h0
  unfold xlex_named_t at h
  split at h
  · obtain ⟨q0, h2, rfl⟩ := Option.map_eq_some_iff.1 h
    obtain ⟨q, h1, rfl⟩ := Option.map_eq_some_iff.1 h2
    exact ⟨rfl, rfl, 2000000, 0 + 3, _, lex_named_ok 2000000 0 _ _ St.empty q h1⟩
  · cases h
noncomputable def ext2_tab : List (Nat × (List AV → Option AV)) := [(23, xlex_named_t)]
noncomputable def ext2 : Ext := moreExt (specL ext2_tab) ext1
theorem ext2_ok : ExtOk C0.P ext2 := moreL_ok mixed0 ext1_ok mext0 ext1_ok (by kernel_rfl) (.cons xlex_named_c <|  .nil)
theorem xlex_named_s_ext2 (R : Nat) (a0 : List UInt8) (a1 : Int) (r : Int × List UInt8 × Int × Int) (h : xlex_named R a0 a1 = some r) : ext2 23 [.str a0, .int .i64 a1] = some (.tuple [(.agg [.int .i64 r.1, .str r.2.1, .int .i64 r.2.2.1]), (.int .i64 r.2.2.2)]) :=
  more_comes ((by kernel_rfl : specL ext2_tab 23 [.str a0, .int .i64 a1] = (xlex_named R a0 a1).map fun r => (.tuple [(.agg [.int .i64 r.1, .str r.2.1, .int .i64 r.2.2.1]), (.int .i64 r.2.2.2)])).trans (by rw [h]; rfl))
theorem xlex_named_ok_ext2 (R n : Nat) (a0 : List UInt8) (a1 : Int) (st : St) (r : Int × List UInt8 × Int × Int) (h : xlex_named R a0 a1 = some r) : CallsTo (callK C0 ext2 R (n + 1)) false 23 [.str a0, .int .i64 a1] st (.tuple [(.agg [.int .i64 r.1, .str r.2.1, .int .i64 r.2.2.1]), (.int .i64 r.2.2.2)]) st := ext_comes (xlex_named_s_ext2 R a0 a1 r h) st
theorem xlex_quoted_s_ext2 (R : Nat) (a0 : List UInt8) (r : List UInt8 × Int) (h : xlex_quoted R a0 = some r) : ext2 20 [.str a0] = some (.tuple [(.str r.1), (.int .i64 r.2)]) :=
  (by kernel_rfl : ext2 20 [.str a0] = ext1 20 [.str a0]).trans (xlex_quoted_s_ext1 R a0 r h)
theorem xlex_quoted_ok_ext2 (R n : Nat) (a0 : List UInt8) (st : St) (r : List UInt8 × Int) (h : xlex_quoted R a0 = some r) : CallsTo (callK C0 ext2 R (n + 1)) false 20 [.str a0] st (.tuple [(.str r.1), (.int .i64 r.2)]) st := ext_comes (xlex_quoted_s_ext2 R a0 r h) st
theorem xlex_hex_s_ext2 (R : Nat) (a0 : List UInt8) (r : List UInt8 × Bool) (h : xlex_hex R a0 = some r) : ext2 21 [.str a0] = some (.tuple [(.str r.1), (.bool r.2)]) :=
  (by kernel_rfl : ext2 21 [.str a0] = ext1 21 [.str a0]).trans (xlex_hex_s_ext1 R a0 r h)
theorem xlex_hex_ok_ext2 (R n : Nat) (a0 : List UInt8) (st : St) (r : List UInt8 × Bool) (h : xlex_hex R a0 = some r) : CallsTo (callK C0 ext2 R (n + 1)) false 21 [.str a0] st (.tuple [(.str r.1), (.bool r.2)]) st := ext_comes (xlex_hex_s_ext2 R a0 r h) st
theorem xlex_Key_s_ext2 (R : Nat) (a0 : List UInt8) (r : Bool) (h : xlex_Key R a0 = some r) : ext2 12 [.str a0] = some (.bool r) :=
  (by kernel_rfl : ext2 12 [.str a0] = ext1 12 [.str a0]).trans (xlex_Key_s_ext1 R a0 r h)
theorem xlex_Key_ok_ext2 (R n : Nat) (a0 : List UInt8) (st : St) (r : Bool) (h : xlex_Key R a0 = some r) : CallsTo (callK C0 ext2 R (n + 1)) false 12 [.str a0] st (.bool r) st := ext_comes (xlex_Key_s_ext2 R a0 r h) st
theorem xvalue_Name_s_ext2 (R : Nat) (a0 : List UInt8) (r : Bool) (h : xvalue_Name R a0 = some r) : ext2 32 [.str a0] = some (.bool r) :=
  (by kernel_rfl : ext2 32 [.str a0] = ext1 32 [.str a0]).trans (xvalue_Name_s_ext1 R a0 r h)
theorem xvalue_Name_ok_ext2 (R n : Nat) (a0 : List UInt8) (st : St) (r : Bool) (h : xvalue_Name R a0 = some r) : CallsTo (callK C0 ext2 R (n + 1)) false 32 [.str a0] st (.bool r) st := ext_comes (xvalue_Name_s_ext2 R a0 r h) st
theorem xparchmentref11_quoted_s_ext2 (R : Nat) (a0 : List UInt8) (a1 : Int) (r : List UInt8 × Int) (h : xparchmentref11_quoted R a0 a1 = some r) : ext2 26 [.str a0, .int .i64 a1] = some (.tuple [(.str r.1), (.int .i64 r.2)]) :=
  (by kernel_rfl : ext2 26 [.str a0, .int .i64 a1] = ext1 26 [.str a0, .int .i64 a1]).trans (xparchmentref11_quoted_s_ext1 R a0 a1 r h)
theorem xparchmentref11_quoted_ok_ext2 (R n : Nat) (a0 : List UInt8) (a1 : Int) (st : St) (r : List UInt8 × Int) (h : xparchmentref11_quoted R a0 a1 = some r) : CallsTo (callK C0 ext2 R (n + 1)) false 26 [.str a0, .int .i64 a1] st (.tuple [(.str r.1), (.int .i64 r.2)]) st := ext_comes (xparchmentref11_quoted_s_ext2 R a0 a1 r h) st
theorem xparchmentref11_bytes_s_ext2 (R : Nat) (a0 : List UInt8) (r : List UInt8 × Bool) (h : xparchmentref11_bytes R a0 = some r) : ext2 27 [.str a0] = some (.tuple [(.str r.1), (.bool r.2)]) :=
  (by kernel_rfl : ext2 27 [.str a0] = ext1 27 [.str a0]).trans (xparchmentref11_bytes_s_ext1 R a0 r h)
theorem xparchmentref11_bytes_ok_ext2 (R n : Nat) (a0 : List UInt8) (st : St) (r : List UInt8 × Bool) (h : xparchmentref11_bytes R a0 = some r) : CallsTo (callK C0 ext2 R (n + 1)) false 27 [.str a0] st (.tuple [(.str r.1), (.bool r.2)]) st := ext_comes (xparchmentref11_bytes_s_ext2 R a0 r h) st
theorem xparchmentref11_Key_s_ext2 (R : Nat) (a0 : List UInt8) (r : Bool) (h : xparchmentref11_Key R a0 = some r) : ext2 13 [.str a0] = some (.bool r) :=
  (by kernel_rfl : ext2 13 [.str a0] = ext1 13 [.str a0]).trans (xparchmentref11_Key_s_ext1 R a0 r h)
theorem xparchmentref11_Key_ok_ext2 (R n : Nat) (a0 : List UInt8) (st : St) (r : Bool) (h : xparchmentref11_Key R a0 = some r) : CallsTo (callK C0 ext2 R (n + 1)) false 13 [.str a0] st (.bool r) st := ext_comes (xparchmentref11_Key_s_ext2 R a0 r h) st
theorem xparchmentref11_number_s_ext2 (R : Nat) (a0 : List UInt8) (r : Bool) (h : xparchmentref11_number R a0 = some r) : ext2 28 [.str a0] = some (.bool r) :=
  (by kernel_rfl : ext2 28 [.str a0] = ext1 28 [.str a0]).trans (xparchmentref11_number_s_ext1 R a0 r h)
theorem xparchmentref11_number_ok_ext2 (R n : Nat) (a0 : List UInt8) (st : St) (r : Bool) (h : xparchmentref11_number R a0 = some r) : CallsTo (callK C0 ext2 R (n + 1)) false 28 [.str a0] st (.bool r) st := ext_comes (xparchmentref11_number_s_ext2 R a0 r h) st
theorem xparchmentref11_class_s_ext2 (R : Nat) (a0 : Int) (r : Int) (h : xparchmentref11_class R a0 = some r) : ext2 17 [.int .u8 a0] = some (.int .i64 r) :=
  (by kernel_rfl : ext2 17 [.int .u8 a0] = ext1 17 [.int .u8 a0]).trans (xparchmentref11_class_s_ext1 R a0 r h)
theorem xparchmentref11_class_ok_ext2 (R n : Nat) (a0 : Int) (st : St) (r : Int) (h : xparchmentref11_class R a0 = some r) : CallsTo (callK C0 ext2 R (n + 1)) false 17 [.int .u8 a0] st (.int .i64 r) st := ext_comes (xparchmentref11_class_s_ext2 R a0 r h) st
theorem xlex_letter_s_ext2 (R : Nat) (a0 : Int) (r : Bool) (h : xlex_letter R a0 = some r) : ext2 22 [.int .u8 a0] = some (.bool r) :=
  (by kernel_rfl : ext2 22 [.int .u8 a0] = ext1 22 [.int .u8 a0]).trans (xlex_letter_s_ext1 R a0 r h)
theorem xlex_letter_ok_ext2 (R n : Nat) (a0 : Int) (st : St) (r : Bool) (h : xlex_letter R a0 = some r) : CallsTo (callK C0 ext2 R (n + 1)) false 22 [.int .u8 a0] st (.bool r) st := ext_comes (xlex_letter_s_ext2 R a0 r h) st
theorem xlex_digit_s_ext2 (R : Nat) (a0 : Int) (r : Bool) (h : xlex_digit R a0 = some r) : ext2 24 [.int .u8 a0] = some (.bool r) :=
  (by kernel_rfl : ext2 24 [.int .u8 a0] = ext1 24 [.int .u8 a0]).trans (xlex_digit_s_ext1 R a0 r h)
theorem xlex_digit_ok_ext2 (R n : Nat) (a0 : Int) (st : St) (r : Bool) (h : xlex_digit R a0 = some r) : CallsTo (callK C0 ext2 R (n + 1)) false 24 [.int .u8 a0] st (.bool r) st := ext_comes (xlex_digit_s_ext2 R a0 r h) st
theorem xlex_blank_s_ext2 (R : Nat) (a0 : Int) (r : Bool) (h : xlex_blank R a0 = some r) : ext2 15 [.int .u8 a0] = some (.bool r) :=
  (by kernel_rfl : ext2 15 [.int .u8 a0] = ext1 15 [.int .u8 a0]).trans (xlex_blank_s_ext1 R a0 r h)
theorem xlex_blank_ok_ext2 (R n : Nat) (a0 : Int) (st : St) (r : Bool) (h : xlex_blank R a0 = some r) : CallsTo (callK C0 ext2 R (n + 1)) false 15 [.int .u8 a0] st (.bool r) st := ext_comes (xlex_blank_s_ext2 R a0 r h) st
theorem xlex_wordy_s_ext2 (R : Nat) (a0 : Int) (r : Bool) (h : xlex_wordy R a0 = some r) : ext2 31 [.int .u8 a0] = some (.bool r) :=
  (by kernel_rfl : ext2 31 [.int .u8 a0] = ext1 31 [.int .u8 a0]).trans (xlex_wordy_s_ext1 R a0 r h)
theorem xlex_wordy_ok_ext2 (R n : Nat) (a0 : Int) (st : St) (r : Bool) (h : xlex_wordy R a0 = some r) : CallsTo (callK C0 ext2 R (n + 1)) false 31 [.int .u8 a0] st (.bool r) st := ext_comes (xlex_wordy_s_ext2 R a0 r h) st
end
end Go.Proofs.Ytlmahcmmpfdglaa
