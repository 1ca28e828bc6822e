/- What lie in the seat, and what the first functions compute, printed by a program. -/
import Derived.Test.YtlmahcmmpfdglaaEvHg
import Derived.Test.YtlmahcmmpfdglaaProg
import Derived.KernelRfl
set_option linter.all false
namespace Go.Proofs.Ytlmahcmmpfdglaa
open Go Go.Ev
noncomputable section
open Go.RowKit in
noncomputable def C0 : Cfg := ⟨Try.prog, fun _ => false, noMext⟩
theorem mixed0 : C0.P.follows .mixedOrders = true := by kernel_rfl
theorem mext0 : MextOk C0.P C0.mext := noMext_ok
theorem extB_ok : ExtOk C0.P (byteExt 37) := byteExt_ok Try.func37 (by kernel_rfl) (by kernel_rfl) (by kernel_rfl) (by kernel_rfl)
/-- The laws' own small check: asked once. -/
theorem awake_yes : callG C0 (byteExt 37) 100000 1000 false 11 [] St.empty (fun _ v _ => boolK v fun b => b) = true := by kernel_rfl
theorem awake (w : World) : Calls Try.prog 11 #[] w fun e w' => e = .returned (.bool true) ∧ Go.RowKit.Below w.heap.size w w' :=
  callG_bool (C := C0) (rounds := 100000) (n := 999) mixed0 extB_ok mext0 (Go.RowKit.Below.refl _ _) (fun _ _ _ => RepL.nil) awake_yes (by kernel_rfl)
noncomputable def ext0 : Ext := knownExt 11 true (byteExt 37)
theorem ext0_ok : ExtOk C0.P ext0 := knownExt_ok extB_ok Try.func11 (by kernel_rfl) (by kernel_rfl) awake
noncomputable def xIdx (R : Nat) (s : List UInt8) (c : Int) : Option Int := some (byteAt s (c.toNat % 256) 0)
theorem xIdx_ok (R n : Nat) (s : List UInt8) (c : Int) (st : St) (r : Int) (h : xIdx R s c = some r) : CallsTo (callK C0 ext0 R (n + 1)) false 37 [.str s, .int .u8 c] st (.int .i64 r) st := by
  obtain rfl := Option.some.inj h
  exact ext_comes rfl st
noncomputable def xawake (R : Nat) : Option Bool := some true
noncomputable def lex_quoted_l11010 (R : Nat) (s31 : List UInt8) : Nat → AV → Int → St → Option ((List UInt8 × Int × St) ⊕ (St))
  | 0, _, _, _ => none
  | r + 1, x32, i33, st34 =>
    if (i33 < (List.length s31 : Int)) then
     Option.bind (idxS s31 i33) fun i37 =>
     if (i37 = 39) then
      if ((IntKind.wrap .i64 (i33 + 1)) < (List.length s31 : Int)) then
       Option.bind (idxS s31 (IntKind.wrap .i64 (i33 + 1))) fun i41 =>
       if (i41 = 39) then
        Option.bind (mkNew (buildSliceOp C0.P (C0.byref 20) 37 1 [(0, (.int .u8 i37))]) st34) fun (x45, st44) =>
        Option.bind (appendOp C0.P (C0.byref 20) st44 #[37, 37] x32 x45) fun (x48, st47) =>
        lex_quoted_l11010 R s31 r x48 (IntKind.wrap .i64 ((IntKind.wrap .i64 (i33 + 1)) + 1)) st47
       else
        Option.bind (strOf st34 x32) fun s50 =>
        some (.inl (s50, (IntKind.wrap .i64 (i33 + 1)), st34))
      else
       Option.bind (strOf st34 x32) fun s52 =>
       some (.inl (s52, (IntKind.wrap .i64 (i33 + 1)), st34))
     else
      Option.bind (mkNew (buildSliceOp C0.P (C0.byref 20) 37 1 [(0, (.int .u8 i37))]) st34) fun (x55, st54) =>
      Option.bind (appendOp C0.P (C0.byref 20) st54 #[37, 37] x32 x55) fun (x58, st57) =>
      lex_quoted_l11010 R s31 r x58 (IntKind.wrap .i64 (i33 + 1)) st57
    else
     some (.inr st34)
noncomputable def lex_quoted_l11010_x (o : (List UInt8 × Int × St) ⊕ (St)) : AExit × List (Nat × AV) × St := match o with
  | .inl (a0, a1, a2) => (.ret, [(2, .str a0), (3, .int .i64 a1)], a2)
  | .inr a0 => ((.exit 0), [], a0)
theorem lex_quoted_l11010_ok (R n : Nat) (s31 : List UInt8) : ∀ (r : Nat) (x32 : AV) (i33 : Int) (st34 : St) (o : (List UInt8 × Int × St) ⊕ (St)), lex_quoted_l11010 R s31 r x32 i33 st34 = some o →
    Leads 46 (loopK (fun fr k => execK C0 (callK C0 ext0 R n) 20 R none (codeAt C0.P 20 [1, 1, 0, 1, 0, 0]) fr k) r) (modsOf (codeAt C0.P 20 [1, 1, 0, 1, 0, 0])) [(0, (.str s31)), (4, x32), (5, (.int .i64 i33))] st34 (lex_quoted_l11010_x o).1 (lex_quoted_l11010_x o).2.1 (lex_quoted_l11010_x o).2.2 := by
  intro r
  induction r with
  | zero => intro x32 i33 st34 o h; exact nomatch h
  | succ r ih =>
    intro x32 i33 st34 o
    unfold lex_quoted_l11010
    refine iteE (fun h35 => ?_) (fun h35 => ?_)
    · refine bindE fun i37 h36 => ?_
      refine iteE (fun h38 => ?_) (fun h38 => ?_)
      · refine iteE (fun h39 => ?_) (fun h39 => ?_)
        · refine bindE fun i41 h40 => ?_
          refine iteE (fun h42 => ?_) (fun h42 => ?_)
          · refine bindE fun o h43 => ?_
            obtain ⟨x45, st44⟩ := o
            refine bindE fun o h46 => ?_
            obtain ⟨x48, st47⟩ := o
            intro h
            exact loop_more (runO_ok (hs := [.run 3, .dec true, .run 2, .val (.int .u8 i37), .dec false, .run 4, .dec true, .run 4, .val (.int .u8 i41), .dec true, .run 4, .val (.int .u8 i37), .eff x45 st44, .eff x48 st47, .run 7]) (want := [0, 4, 5]) (by kernel_rfl) (.cons h46 <| .cons h43 <| .cons (idx_ok (k := .i64) (P := C0.P) (t := 9) (by kernel_rfl) h36) <| .cons (beqT h42) <| .cons (idx_ok (k := .i64) (P := C0.P) (t := 9) (by kernel_rfl) h40) <| .cons (decide_eq_true h39) <| .cons (bneF h38) <| .cons (idx_ok (k := .i64) (P := C0.P) (t := 9) (by kernel_rfl) h36) <| .cons (decide_eq_true h35) .nil)) (ih x48 (IntKind.wrap .i64 ((IntKind.wrap .i64 (i33 + 1)) + 1)) st47 _ h)
          · refine bindE fun s50 h49 => ?_
            intro h
            obtain rfl := Option.some.inj h
            exact loop_done (runO_ok (hs := [.run 3, .dec true, .run 2, .val (.int .u8 i37), .dec false, .run 4, .dec true, .run 4, .val (.int .u8 i41), .dec false, .run 2, .val (.str s50), .run 4]) (want := [2, 3]) (by kernel_rfl) (.cons (strOf_ok h49) <| .cons (beqF h42) <| .cons (idx_ok (k := .i64) (P := C0.P) (t := 9) (by kernel_rfl) h40) <| .cons (decide_eq_true h39) <| .cons (bneF h38) <| .cons (idx_ok (k := .i64) (P := C0.P) (t := 9) (by kernel_rfl) h36) <| .cons (decide_eq_true h35) .nil)) (by kernel_rfl)
        · refine bindE fun s52 h51 => ?_
          intro h
          obtain rfl := Option.some.inj h
          exact loop_done (runO_ok (hs := [.run 3, .dec true, .run 2, .val (.int .u8 i37), .dec false, .run 4, .dec false, .run 3, .val (.str s52), .run 4]) (want := [2, 3]) (by kernel_rfl) (.cons (strOf_ok h51) <| .cons (decide_eq_false h39) <| .cons (bneF h38) <| .cons (idx_ok (k := .i64) (P := C0.P) (t := 9) (by kernel_rfl) h36) <| .cons (decide_eq_true h35) .nil)) (by kernel_rfl)
      · refine bindE fun o h53 => ?_
        obtain ⟨x55, st54⟩ := o
        refine bindE fun o h56 => ?_
        obtain ⟨x58, st57⟩ := o
        intro h
        exact loop_more (runO_ok (hs := [.run 3, .dec true, .run 2, .val (.int .u8 i37), .dec true, .run 3, .val (.int .u8 i37), .eff x55 st54, .eff x58 st57, .run 4]) (want := [0, 4, 5]) (by kernel_rfl) (.cons h56 <| .cons h53 <| .cons (idx_ok (k := .i64) (P := C0.P) (t := 9) (by kernel_rfl) h36) <| .cons (bneT h38) <| .cons (idx_ok (k := .i64) (P := C0.P) (t := 9) (by kernel_rfl) h36) <| .cons (decide_eq_true h35) .nil)) (ih x58 (IntKind.wrap .i64 (i33 + 1)) st57 _ h)
    · intro h
      obtain rfl := Option.some.inj h
      exact loop_done (runO_ok (hs := [.run 3, .dec false]) (want := []) (by kernel_rfl) (.cons (decide_eq_false h35) .nil)) (by kernel_rfl)

/- parchment/lex.quoted -/
def lex_quoted_n : Nat := 20
noncomputable def lex_quoted (R : Nat) (s1 : List UInt8) (st2 : St) : Option (List UInt8 × Int × St) :=
  Option.bind (lex_quoted_l11010 R s1 R AV.snil 1 st2) fun o => match o with
  | .inl (s60, i61, st62) =>
   some (s60, i61, st62)
  | .inr st63 =>
   some ([], 0, st63)
theorem lex_quoted_ok (R n : Nat) (s1 : List UInt8) (st2 : St) (r : List UInt8 × Int × St) (h : lex_quoted R s1 st2 = some r) :
    CallsTo (callK C0 ext0 R (n + 1)) false 20 [(.str s1)] st2 (.tuple [(.str r.1), (.int .i64 r.2.1)]) r.2.2 := by
  revert h
  unfold lex_quoted
  refine bindE fun o h59 => ?_
  rcases o with ⟨s60, i61, st62⟩ | st63
  · intro h
    obtain rfl := Option.some.inj h
    exact callO_ok (hs := [.run 4, .abs [0, 4, 5] .ret [(2, (.str s60)), (3, (.int .i64 i61))] st62]) (by kernel_rfl) (.cons (loop_leads (lex_quoted_l11010_ok R n s1 R AV.snil 1 st2 _ h59)) .nil) (by kernel_rfl) (by kernel_rfl)
  · intro h
    obtain rfl := Option.some.inj h
    exact callO_ok (hs := [.run 4, .abs [0, 4, 5] (.exit 0) [] st63, .run 2]) (by kernel_rfl) (.cons (loop_leads (lex_quoted_l11010_ok R n s1 R AV.snil 1 st2 _ h59)) .nil) (by kernel_rfl) (by kernel_rfl)

/- internal/stringslite.IndexByte -/
def stringslite_IndexByte_n : Nat := 36
noncomputable def stringslite_IndexByte (R : Nat) (s89 : List UInt8) (i90 : Int) : Option (Int) :=
  Option.bind (xIdx R s89 i90) fun i92 =>
  some i92
theorem stringslite_IndexByte_ok (R n : Nat) (s89 : List UInt8) (i90 : Int) (st91 : St) (r : Int) (h : stringslite_IndexByte R s89 i90 = some r) :
    CallsTo (callK C0 ext0 R (n + 2)) false 36 [(.str s89), (.int .u8 i90)] st91 (.int .i64 r) st91 := by
  revert h
  unfold stringslite_IndexByte
  refine bindE fun i92 h93 => ?_
  intro h
  obtain rfl := Option.some.inj h
  exact callO_ok (hs := [.run 3, .call (.int .i64 i92) st91, .run 1]) (by kernel_rfl) (.cons (xIdx_ok R n s89 i90 st91 _ h93) .nil) (by kernel_rfl) (by kernel_rfl)

/- strings.IndexByte -/
def strings_IndexByte_n : Nat := 35
noncomputable def strings_IndexByte (R : Nat) (s96 : List UInt8) (i97 : Int) : Option (Int) :=
  Option.bind (stringslite_IndexByte R s96 i97) fun i99 =>
  some i99
theorem strings_IndexByte_ok (R n : Nat) (s96 : List UInt8) (i97 : Int) (st98 : St) (r : Int) (h : strings_IndexByte R s96 i97 = some r) :
    CallsTo (callK C0 ext0 R (n + 3)) false 35 [(.str s96), (.int .u8 i97)] st98 (.int .i64 r) st98 := by
  revert h
  unfold strings_IndexByte
  refine bindE fun i99 h100 => ?_
  intro h
  obtain rfl := Option.some.inj h
  exact callO_ok (hs := [.run 3, .call (.int .i64 i99) st98, .run 1]) (by kernel_rfl) (.cons (stringslite_IndexByte_ok R n s96 i97 st98 _ h100) .nil) (by kernel_rfl) (by kernel_rfl)

/- parchment/lex.nibble -/
def lex_nibble_n : Nat := 30
noncomputable def lex_nibble (R : Nat) (i103 : Int) : Option (Int) :=
  Option.bind (strings_IndexByte R [48, 49, 50, 51, 52, 53, 54, 55, 56, 57, 97, 98, 99, 100, 101, 102] i103) fun i105 =>
  some i105
theorem lex_nibble_ok (R n : Nat) (i103 : Int) (st104 : St) (r : Int) (h : lex_nibble R i103 = some r) :
    CallsTo (callK C0 ext0 R (n + 4)) false 30 [(.int .u8 i103)] st104 (.int .i64 r) st104 := by
  revert h
  unfold lex_nibble
  refine bindE fun i105 h106 => ?_
  intro h
  obtain rfl := Option.some.inj h
  exact callO_ok (hs := [.run 2, .call (.int .i64 i105) st104, .run 1]) (by kernel_rfl) (.cons (strings_IndexByte_ok R n [48, 49, 50, 51, 52, 53, 54, 55, 56, 57, 97, 98, 99, 100, 101, 102] i103 st104 _ h106) .nil) (by kernel_rfl) (by kernel_rfl)

noncomputable def lex_hex_l11010 (R : Nat) (s119 : List UInt8) : Nat → AV → Int → St → Option ((List UInt8 × Bool × St) ⊕ (AV × St))
  | 0, _, _, _ => none
  | r + 1, x120, i121, st122 =>
    if ((IntKind.wrap .i64 (i121 + 1)) < (List.length s119 : Int)) then
     Option.bind (idxS s119 i121) fun i125 =>
     Option.bind (idxS s119 (IntKind.wrap .i64 (i121 + 1))) fun i127 =>
     Option.bind (lex_nibble R i125) fun i128 =>
     Option.bind (lex_nibble R i127) fun i130 =>
     if (i128 < 0) then
      some (.inl ([], false, st122))
     else
      if (i130 < 0) then
       some (.inl ([], false, st122))
      else
       Option.bind (mkNew (buildSliceOp C0.P (C0.byref 21) 37 1 [(0, (.int .u8 (IntKind.wrap .u8 (orI .i64 (IntKind.wrap .i64 (i128 * 2 ^ 4)) i130))))]) st122) fun (x136, st135) =>
       Option.bind (appendOp C0.P (C0.byref 21) st135 #[37, 37] x120 x136) fun (x139, st138) =>
       lex_hex_l11010 R s119 r x139 (IntKind.wrap .i64 (i121 + 2)) st138
    else
     some (.inr (x120, st122))
noncomputable def lex_hex_l11010_x (o : (List UInt8 × Bool × St) ⊕ (AV × St)) : AExit × List (Nat × AV) × St := match o with
  | .inl (a0, a1, a2) => (.ret, [(2, .str a0), (3, .bool a1)], a2)
  | .inr (a0, a1) => ((.exit 0), [(4, a0)], a1)
theorem lex_hex_l11010_ok (R n : Nat) (s119 : List UInt8) : ∀ (r : Nat) (x120 : AV) (i121 : Int) (st122 : St) (o : (List UInt8 × Bool × St) ⊕ (AV × St)), lex_hex_l11010 R s119 r x120 i121 st122 = some o →
    Leads 48 (loopK (fun fr k => execK C0 (callK C0 ext0 R (n + 4)) 21 R none (codeAt C0.P 21 [1, 1, 0, 1, 0, 0]) fr k) r) (modsOf (codeAt C0.P 21 [1, 1, 0, 1, 0, 0])) [(0, (.str s119)), (4, x120), (5, (.int .i64 i121))] st122 (lex_hex_l11010_x o).1 (lex_hex_l11010_x o).2.1 (lex_hex_l11010_x o).2.2 := by
  intro r
  induction r with
  | zero => intro x120 i121 st122 o h; exact nomatch h
  | succ r ih =>
    intro x120 i121 st122 o
    unfold lex_hex_l11010
    refine iteE (fun h123 => ?_) (fun h123 => ?_)
    · refine bindE fun i125 h124 => ?_
      refine bindE fun i127 h126 => ?_
      refine bindE fun i128 h129 => ?_
      refine bindE fun i130 h131 => ?_
      refine iteE (fun h132 => ?_) (fun h132 => ?_)
      · intro h
        obtain rfl := Option.some.inj h
        exact loop_done (runO_ok (hs := [.run 4, .dec true, .run 2, .val (.int .u8 i125), .run 3, .val (.int .u8 i127), .call (.int .i64 i128) st122, .call (.int .i64 i130) st122, .run 3, .dec true, .run 4]) (want := [2, 3]) (by kernel_rfl) (.cons (decide_eq_true h132) <| .cons (lex_nibble_ok R n i127 st122 _ h131) <| .cons (lex_nibble_ok R n i125 st122 _ h129) <| .cons (idx_ok (k := .i64) (P := C0.P) (t := 9) (by kernel_rfl) h126) <| .cons (idx_ok (k := .i64) (P := C0.P) (t := 9) (by kernel_rfl) h124) <| .cons (decide_eq_true h123) .nil)) (by kernel_rfl)
      · refine iteE (fun h133 => ?_) (fun h133 => ?_)
        · intro h
          obtain rfl := Option.some.inj h
          exact loop_done (runO_ok (hs := [.run 4, .dec true, .run 2, .val (.int .u8 i125), .run 3, .val (.int .u8 i127), .call (.int .i64 i128) st122, .call (.int .i64 i130) st122, .run 3, .dec false, .run 2, .dec true, .run 3]) (want := [2, 3]) (by kernel_rfl) (.cons (decide_eq_true h133) <| .cons (decide_eq_false h132) <| .cons (lex_nibble_ok R n i127 st122 _ h131) <| .cons (lex_nibble_ok R n i125 st122 _ h129) <| .cons (idx_ok (k := .i64) (P := C0.P) (t := 9) (by kernel_rfl) h126) <| .cons (idx_ok (k := .i64) (P := C0.P) (t := 9) (by kernel_rfl) h124) <| .cons (decide_eq_true h123) .nil)) (by kernel_rfl)
        · refine bindE fun o h134 => ?_
          obtain ⟨x136, st135⟩ := o
          refine bindE fun o h137 => ?_
          obtain ⟨x139, st138⟩ := o
          intro h
          exact loop_more (runO_ok (hs := [.run 4, .dec true, .run 2, .val (.int .u8 i125), .run 3, .val (.int .u8 i127), .call (.int .i64 i128) st122, .call (.int .i64 i130) st122, .run 3, .dec false, .run 2, .dec false, .run 7, .eff x136 st135, .eff x139 st138, .run 4]) (want := [0, 4, 5]) (by kernel_rfl) (.cons h137 <| .cons h134 <| .cons (decide_eq_false h133) <| .cons (decide_eq_false h132) <| .cons (lex_nibble_ok R n i127 st122 _ h131) <| .cons (lex_nibble_ok R n i125 st122 _ h129) <| .cons (idx_ok (k := .i64) (P := C0.P) (t := 9) (by kernel_rfl) h126) <| .cons (idx_ok (k := .i64) (P := C0.P) (t := 9) (by kernel_rfl) h124) <| .cons (decide_eq_true h123) .nil)) (ih x139 (IntKind.wrap .i64 (i121 + 2)) st138 _ h)
    · intro h
      obtain rfl := Option.some.inj h
      exact loop_done (runO_ok (hs := [.run 4, .dec false]) (want := [4]) (by kernel_rfl) (.cons (decide_eq_false h123) .nil)) (by kernel_rfl)

/- parchment/lex.hex -/
def lex_hex_n : Nat := 21
noncomputable def lex_hex (R : Nat) (s65 : List UInt8) (st66 : St) : Option (List UInt8 × Bool × St) :=
  Option.bind (mkNew (makeSliceOp C0.P 37 (.int .i64 0) (.int .i64 (IntKind.wrap .i64 (Int.tdiv (List.length s65 : Int) 2)))) st66) fun (x69, st68) =>
  Option.bind (lex_hex_l11010 R s65 R x69 0 st68) fun o => match o with
  | .inl (s141, b142, st143) =>
   some (s141, b142, st143)
  | .inr (x144, st145) =>
   Option.bind (strOf st145 x144) fun s147 =>
   if ((Int.tmod (List.length s65 : Int) 2) = 0) then
    some (s147, true, st145)
   else
    some (s147, false, st145)
theorem lex_hex_ok (R n : Nat) (s65 : List UInt8) (st66 : St) (r : List UInt8 × Bool × St) (h : lex_hex R s65 st66 = some r) :
    CallsTo (callK C0 ext0 R (n + 5)) false 21 [(.str s65)] st66 (.tuple [(.str r.1), (.bool r.2.1)]) r.2.2 := by
  revert h
  unfold lex_hex
  refine bindE fun o h67 => ?_
  obtain ⟨x69, st68⟩ := o
  refine bindE fun o h140 => ?_
  rcases o with ⟨s141, b142, st143⟩ | ⟨x144, st145⟩
  · intro h
    obtain rfl := Option.some.inj h
    exact callO_ok (hs := [.run 5, .eff x69 st68, .run 2, .abs [0, 4, 5] .ret [(2, (.str s141)), (3, (.bool b142))] st143]) (by kernel_rfl) (.cons (loop_leads (lex_hex_l11010_ok R n s65 R x69 0 st68 _ h140)) <| .cons h67 .nil) (by kernel_rfl) (by kernel_rfl)
  · refine bindE fun s147 h146 => ?_
    refine iteE (fun h148 => ?_) (fun h148 => ?_)
    · intro h
      obtain rfl := Option.some.inj h
      exact callO_ok (hs := [.run 5, .eff x69 st68, .run 2, .abs [0, 4, 5] (.exit 0) [(4, x144)] st145, .run 1, .val (.str s147), .run 3, .dec true, .run 2]) (by kernel_rfl) (.cons (beqT h148) <| .cons (strOf_ok h146) <| .cons (loop_leads (lex_hex_l11010_ok R n s65 R x69 0 st68 _ h140)) <| .cons h67 .nil) (by kernel_rfl) (by kernel_rfl)
    · intro h
      obtain rfl := Option.some.inj h
      exact callO_ok (hs := [.run 5, .eff x69 st68, .run 2, .abs [0, 4, 5] (.exit 0) [(4, x144)] st145, .run 1, .val (.str s147), .run 3, .dec false, .run 2]) (by kernel_rfl) (.cons (beqF h148) <| .cons (strOf_ok h146) <| .cons (loop_leads (lex_hex_l11010_ok R n s65 R x69 0 st68 _ h140)) <| .cons h67 .nil) (by kernel_rfl) (by kernel_rfl)

noncomputable def slices_Index___string_string__l1010 (R : Nat) (x176 : AV) (s177 : List UInt8) (i178 : Int) : Nat → Int → St → Option ((Int × St) ⊕ (St))
  | 0, _, _ => none
  | r + 1, i179, st180 =>
    if (i179 < i178) then
     Option.bind (indexAddrOp C0.P 47 x176 (.int .i64 i179)) fun x183 =>
     Option.bind (loadAt C0.P st180 9 x183) fun x185 =>
     Option.bind (avStr x185) fun s186 =>
     if (s177 = s186) then
      some (.inl (i179, st180))
     else
      slices_Index___string_string__l1010 R x176 s177 i178 r (IntKind.wrap .i64 (i179 + 1)) st180
    else
     some (.inr st180)
noncomputable def slices_Index___string_string__l1010_x (o : (Int × St) ⊕ (St)) : AExit × List (Nat × AV) × St := match o with
  | .inl (a0, a1) => (.ret, [(4, .int .i64 a0)], a1)
  | .inr a0 => ((.exit 0), [], a0)
theorem slices_Index___string_string__l1010_ok (R n : Nat) (x176 : AV) (s177 : List UInt8) (i178 : Int) : ∀ (r : Nat) (i179 : Int) (st180 : St) (o : (Int × St) ⊕ (St)), slices_Index___string_string__l1010 R x176 s177 i178 r i179 st180 = some o →
    Leads 19 (loopK (fun fr k => execK C0 (callK C0 ext0 R n) 29 R none (codeAt C0.P 29 [1, 0, 1, 0, 0]) fr k) r) (modsOf (codeAt C0.P 29 [1, 0, 1, 0, 0])) [(0, x176), (1, (.str s177)), (7, (.int .i64 i178)), (8, (.int .i64 i179))] st180 (slices_Index___string_string__l1010_x o).1 (slices_Index___string_string__l1010_x o).2.1 (slices_Index___string_string__l1010_x o).2.2 := by
  intro r
  induction r with
  | zero => intro i179 st180 o h; exact nomatch h
  | succ r ih =>
    intro i179 st180 o
    unfold slices_Index___string_string__l1010
    refine iteE (fun h181 => ?_) (fun h181 => ?_)
    · refine bindE fun x183 h182 => ?_
      refine bindE fun x185 h184 => ?_
      refine bindE fun s186 h187 => ?_
      obtain rfl := avStr_ok h187
      refine iteE (fun h188 => ?_) (fun h188 => ?_)
      · intro h
        obtain rfl := Option.some.inj h
        exact loop_done (runO_ok (hs := [.dec true, .run 5, .val x183, .val (.str s186), .dec true, .run 2]) (want := [4]) (by kernel_rfl) (.cons (strEqT h188) <| .cons h184 <| .cons h182 <| .cons (decide_eq_true h181) .nil)) (by kernel_rfl)
      · intro h
        exact loop_more (runO_ok (hs := [.dec true, .run 5, .val x183, .val (.str s186), .dec false, .run 2]) (want := [0, 1, 7, 8]) (by kernel_rfl) (.cons (strEqF h188) <| .cons h184 <| .cons h182 <| .cons (decide_eq_true h181) .nil)) (ih (IntKind.wrap .i64 (i179 + 1)) st180 _ h)
    · intro h
      obtain rfl := Option.some.inj h
      exact loop_done (runO_ok (hs := [.dec false]) (want := []) (by kernel_rfl) (.cons (decide_eq_false h181) .nil)) (by kernel_rfl)

/- slices.Index[[]string,string] -/
def slices_Index___string_string__n : Nat := 29
noncomputable def slices_Index___string_string_ (R : Nat) (x158 : AV) (s159 : List UInt8) (st160 : St) : Option (Int × St) :=
  Option.bind (lenOf x158) fun n162 =>
  Option.bind (slices_Index___string_string__l1010 R x158 s159 (n162 : Int) R 0 st160) fun o => match o with
  | .inl (i190, st191) =>
   some (i190, st191)
  | .inr st192 =>
   some ((-1), st192)
theorem slices_Index___string_string__ok (R n : Nat) (x158 : AV) (s159 : List UInt8) (st160 : St) (r : Int × St) (h : slices_Index___string_string_ R x158 s159 st160 = some r) :
    CallsTo (callK C0 ext0 R (n + 1)) false 29 [x158, (.str s159)] st160 (.int .i64 r.1) r.2 := by
  revert h
  unfold slices_Index___string_string_
  refine bindE fun n162 h161 => ?_
  refine bindE fun o h189 => ?_
  rcases o with ⟨i190, st191⟩ | st192
  · intro h
    obtain rfl := Option.some.inj h
    exact callO_ok (hs := [.run 2, .val (.int .i64 (n162 : Int)), .run 1, .abs [0, 1, 7, 8] .ret [(4, (.int .i64 i190))] st191]) (by kernel_rfl) (.cons (loop_leads (slices_Index___string_string__l1010_ok R n x158 s159 (n162 : Int) R 0 st160 _ h189)) <| .cons (len_ok (P := C0.P) (t := 47) (e := 9) (by kernel_rfl) h161) .nil) (by kernel_rfl) (by kernel_rfl)
  · intro h
    obtain rfl := Option.some.inj h
    exact callO_ok (hs := [.run 2, .val (.int .i64 (n162 : Int)), .run 1, .abs [0, 1, 7, 8] (.exit 0) [] st192, .run 1]) (by kernel_rfl) (.cons (loop_leads (slices_Index___string_string__l1010_ok R n x158 s159 (n162 : Int) R 0 st160 _ h189)) <| .cons (len_ok (P := C0.P) (t := 47) (e := 9) (by kernel_rfl) h161) .nil) (by kernel_rfl) (by kernel_rfl)

/- slices.Contains[[]string,string] -/
def slices_Contains___string_string__n : Nat := 19
noncomputable def slices_Contains___string_string_ (R : Nat) (x155 : AV) (s156 : List UInt8) (st157 : St) : Option (Bool × St) :=
  Option.bind (slices_Index___string_string_ R x155 s156 st157) fun (i193, st195) =>
  if (i193 ≥ 0) then
   some (true, st195)
  else
   some (false, st195)
theorem slices_Contains___string_string__ok (R n : Nat) (x155 : AV) (s156 : List UInt8) (st157 : St) (r : Bool × St) (h : slices_Contains___string_string_ R x155 s156 st157 = some r) :
    CallsTo (callK C0 ext0 R (n + 2)) false 19 [x155, (.str s156)] st157 (.bool r.1) r.2 := by
  revert h
  unfold slices_Contains___string_string_
  refine bindE fun o h194 => ?_
  obtain ⟨i193, st195⟩ := o
  refine iteE (fun h196 => ?_) (fun h196 => ?_)
  · intro h
    obtain rfl := Option.some.inj h
    exact callO_ok (hs := [.run 3, .call (.int .i64 i193) st195, .dec true, .run 1]) (by kernel_rfl) (.cons (decide_eq_true h196) <| .cons (slices_Index___string_string__ok R n x155 s156 st157 _ h194) .nil) (by kernel_rfl) (by kernel_rfl)
  · intro h
    obtain rfl := Option.some.inj h
    exact callO_ok (hs := [.run 3, .call (.int .i64 i193) st195, .dec false, .run 1]) (by kernel_rfl) (.cons (decide_eq_false h196) <| .cons (slices_Index___string_string__ok R n x155 s156 st157 _ h194) .nil) (by kernel_rfl) (by kernel_rfl)

/- parchment/lex.Key -/
def lex_Key_n : Nat := 12
noncomputable def lex_Key (R : Nat) (s150 : List UInt8) (st151 : St) : Option (Bool × St) :=
  Option.bind (mkNew (buildSliceOp C0.P (C0.byref 12) 47 26 [(0, (.str [65, 78, 68])), (1, (.str [66, 89])), (2, (.str [67, 79, 85, 78, 84])), (3, (.str [67, 82, 69, 65, 84, 69])), (4, (.str [68, 69, 76, 69, 84, 69])), (5, (.str [68, 69, 83, 67])), (6, (.str [70, 65, 76, 83, 69])), (7, (.str [70, 82, 79, 77])), (8, (.str [72, 73, 83, 84, 79, 82, 89])), (9, (.str [73, 78, 68, 69, 88])), (10, (.str [73, 78, 83, 69, 82, 84])), (11, (.str [73, 78, 84, 79])), (12, (.str [73, 83])), (13, (.str [76, 73, 77, 73, 84])), (14, (.str [78, 79, 84])), (15, (.str [78, 85, 76, 76])), (16, (.str [79, 78])), (17, (.str [79, 82])), (18, (.str [79, 82, 68, 69, 82])), (19, (.str [83, 69, 76, 69, 67, 84])), (20, (.str [83, 69, 84])), (21, (.str [84, 65, 66, 76, 69])), (22, (.str [84, 82, 85, 69])), (23, (.str [85, 80, 68, 65, 84, 69])), (24, (.str [86, 65, 76, 85, 69])), (25, (.str [87, 72, 69, 82, 69]))]) st151) fun (x154, st153) =>
  Option.bind (slices_Contains___string_string_ R x154 s150 st153) fun (b197, st199) =>
  some (b197, st199)
theorem lex_Key_ok (R n : Nat) (s150 : List UInt8) (st151 : St) (r : Bool × St) (h : lex_Key R s150 st151 = some r) :
    CallsTo (callK C0 ext0 R (n + 3)) false 12 [(.str s150)] st151 (.bool r.1) r.2 := by
  revert h
  unfold lex_Key
  refine bindE fun o h152 => ?_
  obtain ⟨x154, st153⟩ := o
  refine bindE fun o h198 => ?_
  obtain ⟨b197, st199⟩ := o
  intro h
  obtain rfl := Option.some.inj h
  exact callO_ok (hs := [.run 1, .eff x154 st153, .run 1, .call (.bool b197) st199, .run 1]) (by kernel_rfl) (.cons (slices_Contains___string_string__ok R n x154 s150 st153 _ h198) <| .cons h152 .nil) (by kernel_rfl) (by kernel_rfl)

noncomputable def value_Name_l1010 (R : Nat) (s262 : List UInt8) (i263 : Int) : Nat → Int → Option ((Bool) ⊕ (Unit))
  | 0, _ => none
  | r + 1, i264 =>
    if (i264 < i263) then
     Option.bind (idxS s262 i264) fun i268 =>
     if (i268 ≥ 97) then
      if (i268 ≤ 122) then
       value_Name_l1010 R s262 i263 r (IntKind.wrap .i64 (i264 + 1))
      else
       if (i264 = 0) then
        some (.inl false)
       else
        some (.inl false)
     else
      if (i268 ≥ 65) then
       if (i268 ≤ 90) then
        value_Name_l1010 R s262 i263 r (IntKind.wrap .i64 (i264 + 1))
       else
        if (i268 = 95) then
         value_Name_l1010 R s262 i263 r (IntKind.wrap .i64 (i264 + 1))
        else
         if (i264 = 0) then
          some (.inl false)
         else
          some (.inl false)
      else
       if (i264 = 0) then
        some (.inl false)
       else
        if (i268 < 48) then
         some (.inl false)
        else
         if (i268 > 57) then
          some (.inl false)
         else
          value_Name_l1010 R s262 i263 r (IntKind.wrap .i64 (i264 + 1))
    else
     some (.inr ())
noncomputable def value_Name_l1010_x (st : St) (o : (Bool) ⊕ (Unit)) : AExit × List (Nat × AV) × St := match o with
  | .inl a0 => (.ret, [(2, .bool a0)], st)
  | .inr () => ((.exit 0), [], st)
theorem value_Name_l1010_ok (R n : Nat) (s262 : List UInt8) (i263 : Int) (st265 : St) : ∀ (r : Nat) (i264 : Int) (o : (Bool) ⊕ (Unit)), value_Name_l1010 R s262 i263 r i264 = some o →
    Leads 55 (loopK (fun fr k => execK C0 (callK C0 ext0 R n) 32 R none (codeAt C0.P 32 [1, 0, 1, 0, 0]) fr k) r) (modsOf (codeAt C0.P 32 [1, 0, 1, 0, 0])) [(0, (.str s262)), (7, (.int .i64 i263)), (8, (.int .i64 i264))] st265 (value_Name_l1010_x st265 o).1 (value_Name_l1010_x st265 o).2.1 (value_Name_l1010_x st265 o).2.2 := by
  intro r
  induction r with
  | zero => intro i264 o h; exact nomatch h
  | succ r ih =>
    intro i264 o
    unfold value_Name_l1010
    refine iteE (fun h266 => ?_) (fun h266 => ?_)
    · refine bindE fun i268 h267 => ?_
      refine iteE (fun h269 => ?_) (fun h269 => ?_)
      · refine iteE (fun h270 => ?_) (fun h270 => ?_)
        · intro h
          exact loop_more (runO_ok (hs := [.dec true, .run 4, .val (.int .u8 i268), .run 2, .dec true, .run 2, .dec true, .run 12]) (want := [0, 7, 8]) (by kernel_rfl) (.cons (decide_eq_true h270) <| .cons (decide_eq_true h269) <| .cons (idx_ok (k := .i64) (P := C0.P) (t := 9) (by kernel_rfl) h267) <| .cons (decide_eq_true h266) .nil)) (ih (IntKind.wrap .i64 (i264 + 1)) _ h)
        · refine iteE (fun h271 => ?_) (fun h271 => ?_)
          · intro h
            obtain rfl := Option.some.inj h
            exact loop_done (runO_ok (hs := [.dec true, .run 4, .val (.int .u8 i268), .run 2, .dec true, .run 2, .dec false, .run 3, .dec true, .run 2, .dec false, .run 4, .dec false, .run 6, .dec true, .run 6]) (want := [2]) (by kernel_rfl) (.cons (beqT h271) <| .cons (beqF (show ¬ (i268 = 95) by omega)) <| .cons (decide_eq_false (show ¬ (i268 ≤ 90) by omega)) <| .cons (decide_eq_true (show (i268 ≥ 65) by omega)) <| .cons (decide_eq_false h270) <| .cons (decide_eq_true h269) <| .cons (idx_ok (k := .i64) (P := C0.P) (t := 9) (by kernel_rfl) h267) <| .cons (decide_eq_true h266) .nil)) (by kernel_rfl)
          · intro h
            obtain rfl := Option.some.inj h
            exact loop_done (runO_ok (hs := [.dec true, .run 4, .val (.int .u8 i268), .run 2, .dec true, .run 2, .dec false, .run 3, .dec true, .run 2, .dec false, .run 4, .dec false, .run 6, .dec false, .run 2, .dec false, .run 3, .dec true, .run 3]) (want := [2]) (by kernel_rfl) (.cons (decide_eq_true (show (i268 > 57) by omega)) <| .cons (decide_eq_false (show ¬ (i268 < 48) by omega)) <| .cons (beqF h271) <| .cons (beqF (show ¬ (i268 = 95) by omega)) <| .cons (decide_eq_false (show ¬ (i268 ≤ 90) by omega)) <| .cons (decide_eq_true (show (i268 ≥ 65) by omega)) <| .cons (decide_eq_false h270) <| .cons (decide_eq_true h269) <| .cons (idx_ok (k := .i64) (P := C0.P) (t := 9) (by kernel_rfl) h267) <| .cons (decide_eq_true h266) .nil)) (by kernel_rfl)
      · refine iteE (fun h272 => ?_) (fun h272 => ?_)
        · refine iteE (fun h273 => ?_) (fun h273 => ?_)
          · intro h
            exact loop_more (runO_ok (hs := [.dec true, .run 4, .val (.int .u8 i268), .run 2, .dec false, .run 4, .dec true, .run 2, .dec true, .run 11]) (want := [0, 7, 8]) (by kernel_rfl) (.cons (decide_eq_true h273) <| .cons (decide_eq_true h272) <| .cons (decide_eq_false h269) <| .cons (idx_ok (k := .i64) (P := C0.P) (t := 9) (by kernel_rfl) h267) <| .cons (decide_eq_true h266) .nil)) (ih (IntKind.wrap .i64 (i264 + 1)) _ h)
          · refine iteE (fun h274 => ?_) (fun h274 => ?_)
            · intro h
              exact loop_more (runO_ok (hs := [.dec true, .run 4, .val (.int .u8 i268), .run 2, .dec false, .run 4, .dec true, .run 2, .dec false, .run 4, .dec true, .run 8]) (want := [0, 7, 8]) (by kernel_rfl) (.cons (beqT h274) <| .cons (decide_eq_false h273) <| .cons (decide_eq_true h272) <| .cons (decide_eq_false h269) <| .cons (idx_ok (k := .i64) (P := C0.P) (t := 9) (by kernel_rfl) h267) <| .cons (decide_eq_true h266) .nil)) (ih (IntKind.wrap .i64 (i264 + 1)) _ h)
            · refine iteE (fun h275 => ?_) (fun h275 => ?_)
              · intro h
                obtain rfl := Option.some.inj h
                exact loop_done (runO_ok (hs := [.dec true, .run 4, .val (.int .u8 i268), .run 2, .dec false, .run 4, .dec true, .run 2, .dec false, .run 4, .dec false, .run 6, .dec true, .run 6]) (want := [2]) (by kernel_rfl) (.cons (beqT h275) <| .cons (beqF h274) <| .cons (decide_eq_false h273) <| .cons (decide_eq_true h272) <| .cons (decide_eq_false h269) <| .cons (idx_ok (k := .i64) (P := C0.P) (t := 9) (by kernel_rfl) h267) <| .cons (decide_eq_true h266) .nil)) (by kernel_rfl)
              · intro h
                obtain rfl := Option.some.inj h
                exact loop_done (runO_ok (hs := [.dec true, .run 4, .val (.int .u8 i268), .run 2, .dec false, .run 4, .dec true, .run 2, .dec false, .run 4, .dec false, .run 6, .dec false, .run 2, .dec false, .run 3, .dec true, .run 3]) (want := [2]) (by kernel_rfl) (.cons (decide_eq_true (show (i268 > 57) by omega)) <| .cons (decide_eq_false (show ¬ (i268 < 48) by omega)) <| .cons (beqF h275) <| .cons (beqF h274) <| .cons (decide_eq_false h273) <| .cons (decide_eq_true h272) <| .cons (decide_eq_false h269) <| .cons (idx_ok (k := .i64) (P := C0.P) (t := 9) (by kernel_rfl) h267) <| .cons (decide_eq_true h266) .nil)) (by kernel_rfl)
        · refine iteE (fun h276 => ?_) (fun h276 => ?_)
          · intro h
            obtain rfl := Option.some.inj h
            exact loop_done (runO_ok (hs := [.dec true, .run 4, .val (.int .u8 i268), .run 2, .dec false, .run 4, .dec false, .run 5, .dec false, .run 6, .dec true, .run 6]) (want := [2]) (by kernel_rfl) (.cons (beqT h276) <| .cons (beqF (show ¬ (i268 = 95) by omega)) <| .cons (decide_eq_false h272) <| .cons (decide_eq_false h269) <| .cons (idx_ok (k := .i64) (P := C0.P) (t := 9) (by kernel_rfl) h267) <| .cons (decide_eq_true h266) .nil)) (by kernel_rfl)
          · refine iteE (fun h277 => ?_) (fun h277 => ?_)
            · intro h
              obtain rfl := Option.some.inj h
              exact loop_done (runO_ok (hs := [.dec true, .run 4, .val (.int .u8 i268), .run 2, .dec false, .run 4, .dec false, .run 5, .dec false, .run 6, .dec false, .run 2, .dec true, .run 5]) (want := [2]) (by kernel_rfl) (.cons (decide_eq_true h277) <| .cons (beqF h276) <| .cons (beqF (show ¬ (i268 = 95) by omega)) <| .cons (decide_eq_false h272) <| .cons (decide_eq_false h269) <| .cons (idx_ok (k := .i64) (P := C0.P) (t := 9) (by kernel_rfl) h267) <| .cons (decide_eq_true h266) .nil)) (by kernel_rfl)
            · refine iteE (fun h278 => ?_) (fun h278 => ?_)
              · intro h
                obtain rfl := Option.some.inj h
                exact loop_done (runO_ok (hs := [.dec true, .run 4, .val (.int .u8 i268), .run 2, .dec false, .run 4, .dec false, .run 5, .dec false, .run 6, .dec false, .run 2, .dec false, .run 3, .dec true, .run 3]) (want := [2]) (by kernel_rfl) (.cons (decide_eq_true h278) <| .cons (decide_eq_false h277) <| .cons (beqF h276) <| .cons (beqF (show ¬ (i268 = 95) by omega)) <| .cons (decide_eq_false h272) <| .cons (decide_eq_false h269) <| .cons (idx_ok (k := .i64) (P := C0.P) (t := 9) (by kernel_rfl) h267) <| .cons (decide_eq_true h266) .nil)) (by kernel_rfl)
              · intro h
                exact loop_more (runO_ok (hs := [.dec true, .run 4, .val (.int .u8 i268), .run 2, .dec false, .run 4, .dec false, .run 5, .dec false, .run 6, .dec false, .run 2, .dec false, .run 3, .dec false, .run 4]) (want := [0, 7, 8]) (by kernel_rfl) (.cons (decide_eq_false h278) <| .cons (decide_eq_false h277) <| .cons (beqF h276) <| .cons (beqF (show ¬ (i268 = 95) by omega)) <| .cons (decide_eq_false h272) <| .cons (decide_eq_false h269) <| .cons (idx_ok (k := .i64) (P := C0.P) (t := 9) (by kernel_rfl) h267) <| .cons (decide_eq_true h266) .nil)) (ih (IntKind.wrap .i64 (i264 + 1)) _ h)
    · intro h
      obtain rfl := Option.some.inj h
      exact loop_done (runO_ok (hs := [.dec false]) (want := []) (by kernel_rfl) (.cons (decide_eq_false h266) .nil)) (by kernel_rfl)

/- parchment/value.Name -/
def value_Name_n : Nat := 32
noncomputable def value_Name (R : Nat) (s243 : List UInt8) : Option (Bool) :=
  Option.bind (value_Name_l1010 R s243 (List.length s243 : Int) R 0) fun o => match o with
  | .inl b280 =>
   some b280
  | .inr _ =>
   if ((List.length s243 : Int) ≥ 1) then
    if ((List.length s243 : Int) ≤ 16) then
     some true
    else
     some false
   else
    some false
theorem value_Name_ok (R n : Nat) (s243 : List UInt8) (st244 : St) (r : Bool) (h : value_Name R s243 = some r) :
    CallsTo (callK C0 ext0 R (n + 1)) false 32 [(.str s243)] st244 (.bool r) st244 := by
  revert h
  unfold value_Name
  refine bindE fun o h279 => ?_
  rcases o with b280 | _
  · intro h
    obtain rfl := Option.some.inj h
    exact callO_ok (hs := [.run 4, .abs [0, 7, 8] .ret [(2, (.bool b280))] st244]) (by kernel_rfl) (.cons (loop_leads (value_Name_l1010_ok R n s243 (List.length s243 : Int) st244 R 0 _ h279)) .nil) (by kernel_rfl) (by kernel_rfl)
  · refine iteE (fun h281 => ?_) (fun h281 => ?_)
    · refine iteE (fun h282 => ?_) (fun h282 => ?_)
      · intro h
        obtain rfl := Option.some.inj h
        exact callO_ok (hs := [.run 4, .abs [0, 7, 8] (.exit 0) [] st244, .run 2, .dec true, .run 3, .dec true, .run 2]) (by kernel_rfl) (.cons (decide_eq_true h282) <| .cons (decide_eq_true h281) <| .cons (loop_leads (value_Name_l1010_ok R n s243 (List.length s243 : Int) st244 R 0 _ h279)) .nil) (by kernel_rfl) (by kernel_rfl)
      · intro h
        obtain rfl := Option.some.inj h
        exact callO_ok (hs := [.run 4, .abs [0, 7, 8] (.exit 0) [] st244, .run 2, .dec true, .run 3, .dec false, .run 2]) (by kernel_rfl) (.cons (decide_eq_false h282) <| .cons (decide_eq_true h281) <| .cons (loop_leads (value_Name_l1010_ok R n s243 (List.length s243 : Int) st244 R 0 _ h279)) .nil) (by kernel_rfl) (by kernel_rfl)
    · intro h
      obtain rfl := Option.some.inj h
      exact callO_ok (hs := [.run 4, .abs [0, 7, 8] (.exit 0) [] st244, .run 2, .dec false, .run 3]) (by kernel_rfl) (.cons (decide_eq_false h281) <| .cons (loop_leads (value_Name_l1010_ok R n s243 (List.length s243 : Int) st244 R 0 _ h279)) .nil) (by kernel_rfl) (by kernel_rfl)

noncomputable def parchmentref11_quoted_l11010 (R : Nat) (s350 : List UInt8) : Nat → List UInt8 → Int → Option ((List UInt8 × Int) ⊕ (Unit))
  | 0, _, _ => none
  | r + 1, s351, i352 =>
    if (i352 < (List.length s350 : Int)) then
     Option.bind (idxS s350 i352) fun i356 =>
     if (i356 = 39) then
      if ((IntKind.wrap .i64 (i352 + 1)) < (List.length s350 : Int)) then
       Option.bind (idxS s350 (IntKind.wrap .i64 (i352 + 1))) fun i360 =>
       if (i360 = 39) then
        Option.bind (catS s351 [39]) fun s363 =>
        parchmentref11_quoted_l11010 R s350 r s363 (IntKind.wrap .i64 ((IntKind.wrap .i64 (i352 + 1)) + 1))
       else
        some (.inl (s351, (IntKind.wrap .i64 (i352 + 1))))
      else
       some (.inl (s351, (IntKind.wrap .i64 (i352 + 1))))
     else
      Option.bind (subS s350 i352 (IntKind.wrap .i64 (i352 + 1))) fun s365 =>
      Option.bind (catS s351 s365) fun s367 =>
      parchmentref11_quoted_l11010 R s350 r s367 (IntKind.wrap .i64 (i352 + 1))
    else
     some (.inr ())
noncomputable def parchmentref11_quoted_l11010_x (st : St) (o : (List UInt8 × Int) ⊕ (Unit)) : AExit × List (Nat × AV) × St := match o with
  | .inl (a0, a1) => (.ret, [(4, .str a0), (5, .int .i64 a1)], st)
  | .inr () => ((.exit 0), [], st)
theorem parchmentref11_quoted_l11010_ok (R n : Nat) (s350 : List UInt8) (st353 : St) : ∀ (r : Nat) (s351 : List UInt8) (i352 : Int) (o : (List UInt8 × Int) ⊕ (Unit)), parchmentref11_quoted_l11010 R s350 r s351 i352 = some o →
    Leads 46 (loopK (fun fr k => execK C0 (callK C0 ext0 R n) 26 R none (codeAt C0.P 26 [1, 1, 0, 1, 0, 0]) fr k) r) (modsOf (codeAt C0.P 26 [1, 1, 0, 1, 0, 0])) [(0, (.str s350)), (6, (.str s351)), (7, (.int .i64 i352))] st353 (parchmentref11_quoted_l11010_x st353 o).1 (parchmentref11_quoted_l11010_x st353 o).2.1 (parchmentref11_quoted_l11010_x st353 o).2.2 := by
  intro r
  induction r with
  | zero => intro s351 i352 o h; exact nomatch h
  | succ r ih =>
    intro s351 i352 o
    unfold parchmentref11_quoted_l11010
    refine iteE (fun h354 => ?_) (fun h354 => ?_)
    · refine bindE fun i356 h355 => ?_
      refine iteE (fun h357 => ?_) (fun h357 => ?_)
      · refine iteE (fun h358 => ?_) (fun h358 => ?_)
        · refine bindE fun i360 h359 => ?_
          refine iteE (fun h361 => ?_) (fun h361 => ?_)
          · refine bindE fun s363 h362 => ?_
            intro h
            exact loop_more (runO_ok (hs := [.run 3, .dec true, .run 2, .val (.int .u8 i356), .dec false, .run 4, .dec true, .run 4, .val (.int .u8 i360), .dec true, .run 2, .val (.str s363), .run 7]) (want := [0, 6, 7]) (by kernel_rfl) (.cons (cat_ok h362) <| .cons (beqT h361) <| .cons (idx_ok (k := .i64) (P := C0.P) (t := 9) (by kernel_rfl) h359) <| .cons (decide_eq_true h358) <| .cons (bneF h357) <| .cons (idx_ok (k := .i64) (P := C0.P) (t := 9) (by kernel_rfl) h355) <| .cons (decide_eq_true h354) .nil)) (ih s363 (IntKind.wrap .i64 ((IntKind.wrap .i64 (i352 + 1)) + 1)) _ h)
          · intro h
            obtain rfl := Option.some.inj h
            exact loop_done (runO_ok (hs := [.run 3, .dec true, .run 2, .val (.int .u8 i356), .dec false, .run 4, .dec true, .run 4, .val (.int .u8 i360), .dec false, .run 6]) (want := [4, 5]) (by kernel_rfl) (.cons (beqF h361) <| .cons (idx_ok (k := .i64) (P := C0.P) (t := 9) (by kernel_rfl) h359) <| .cons (decide_eq_true h358) <| .cons (bneF h357) <| .cons (idx_ok (k := .i64) (P := C0.P) (t := 9) (by kernel_rfl) h355) <| .cons (decide_eq_true h354) .nil)) (by kernel_rfl)
        · intro h
          obtain rfl := Option.some.inj h
          exact loop_done (runO_ok (hs := [.run 3, .dec true, .run 2, .val (.int .u8 i356), .dec false, .run 4, .dec false, .run 7]) (want := [4, 5]) (by kernel_rfl) (.cons (decide_eq_false h358) <| .cons (bneF h357) <| .cons (idx_ok (k := .i64) (P := C0.P) (t := 9) (by kernel_rfl) h355) <| .cons (decide_eq_true h354) .nil)) (by kernel_rfl)
      · refine bindE fun s365 h364 => ?_
        refine bindE fun s367 h366 => ?_
        intro h
        exact loop_more (runO_ok (hs := [.run 3, .dec true, .run 2, .val (.int .u8 i356), .dec true, .run 5, .val (.str s365), .val (.str s367), .run 4]) (want := [0, 6, 7]) (by kernel_rfl) (.cons (cat_ok h366) <| .cons (sub11 (k := .i64) (k' := .i64) (P := C0.P) (t := 9) (by kernel_rfl) h364) <| .cons (bneT h357) <| .cons (idx_ok (k := .i64) (P := C0.P) (t := 9) (by kernel_rfl) h355) <| .cons (decide_eq_true h354) .nil)) (ih s367 (IntKind.wrap .i64 (i352 + 1)) _ h)
    · intro h
      obtain rfl := Option.some.inj h
      exact loop_done (runO_ok (hs := [.run 3, .dec false]) (want := []) (by kernel_rfl) (.cons (decide_eq_false h354) .nil)) (by kernel_rfl)

/- parchment/parchmentref11.quoted -/
def parchmentref11_quoted_n : Nat := 26
noncomputable def parchmentref11_quoted (R : Nat) (s329 : List UInt8) (i330 : Int) : Option (List UInt8 × Int) :=
  Option.bind (parchmentref11_quoted_l11010 R s329 R [] (IntKind.wrap .i64 (i330 + 1))) fun o => match o with
  | .inl (s369, i370) =>
   some (s369, i370)
  | .inr _ =>
   some ([], 0)
theorem parchmentref11_quoted_ok (R n : Nat) (s329 : List UInt8) (i330 : Int) (st331 : St) (r : List UInt8 × Int) (h : parchmentref11_quoted R s329 i330 = some r) :
    CallsTo (callK C0 ext0 R (n + 1)) false 26 [(.str s329), (.int .i64 i330)] st331 (.tuple [(.str r.1), (.int .i64 r.2)]) st331 := by
  revert h
  unfold parchmentref11_quoted
  refine bindE fun o h368 => ?_
  rcases o with ⟨s369, i370⟩ | _
  · intro h
    obtain rfl := Option.some.inj h
    exact callO_ok (hs := [.run 6, .abs [0, 6, 7] .ret [(4, (.str s369)), (5, (.int .i64 i370))] st331]) (by kernel_rfl) (.cons (loop_leads (parchmentref11_quoted_l11010_ok R n s329 st331 R [] (IntKind.wrap .i64 (i330 + 1)) _ h368)) .nil) (by kernel_rfl) (by kernel_rfl)
  · intro h
    obtain rfl := Option.some.inj h
    exact callO_ok (hs := [.run 6, .abs [0, 6, 7] (.exit 0) [] st331, .run 2]) (by kernel_rfl) (.cons (loop_leads (parchmentref11_quoted_l11010_ok R n s329 st331 R [] (IntKind.wrap .i64 (i330 + 1)) _ h368)) .nil) (by kernel_rfl) (by kernel_rfl)

/- parchment/parchmentref11.half -/
def parchmentref11_half_n : Nat := 34
noncomputable def parchmentref11_half (R : Nat) (i388 : Int) : Option (Int) :=
  if (i388 ≥ 48) then
   if (i388 ≤ 57) then
    some (IntKind.wrap .i64 ((IntKind.wrap .i64 i388) - 48))
   else
    if (i388 ≥ 97) then
     if (i388 ≤ 102) then
      some (IntKind.wrap .i64 ((IntKind.wrap .i64 i388) - 87))
     else
      some 16
    else
     some 16
  else
   some 16
theorem parchmentref11_half_ok (R n : Nat) (i388 : Int) (st389 : St) (r : Int) (h : parchmentref11_half R i388 = some r) :
    CallsTo (callK C0 ext0 R (n + 1)) false 34 [(.int .u8 i388)] st389 (.int .i64 r) st389 := by
  revert h
  unfold parchmentref11_half
  refine iteE (fun h390 => ?_) (fun h390 => ?_)
  · refine iteE (fun h391 => ?_) (fun h391 => ?_)
    · intro h
      obtain rfl := Option.some.inj h
      exact callO_ok (hs := [.run 2, .dec true, .run 2, .dec true, .run 5]) (by kernel_rfl) (.cons (decide_eq_true h391) <| .cons (decide_eq_true h390) .nil) (by kernel_rfl) (by kernel_rfl)
    · refine iteE (fun h392 => ?_) (fun h392 => ?_)
      · refine iteE (fun h393 => ?_) (fun h393 => ?_)
        · intro h
          obtain rfl := Option.some.inj h
          exact callO_ok (hs := [.run 2, .dec true, .run 2, .dec false, .run 2, .dec true, .run 2, .dec true, .run 5]) (by kernel_rfl) (.cons (decide_eq_true h393) <| .cons (decide_eq_true h392) <| .cons (decide_eq_false h391) <| .cons (decide_eq_true h390) .nil) (by kernel_rfl) (by kernel_rfl)
        · intro h
          obtain rfl := Option.some.inj h
          exact callO_ok (hs := [.run 2, .dec true, .run 2, .dec false, .run 2, .dec true, .run 2, .dec false, .run 2]) (by kernel_rfl) (.cons (decide_eq_false h393) <| .cons (decide_eq_true h392) <| .cons (decide_eq_false h391) <| .cons (decide_eq_true h390) .nil) (by kernel_rfl) (by kernel_rfl)
      · intro h
        obtain rfl := Option.some.inj h
        exact callO_ok (hs := [.run 2, .dec true, .run 2, .dec false, .run 2, .dec false, .run 3]) (by kernel_rfl) (.cons (decide_eq_false h392) <| .cons (decide_eq_false h391) <| .cons (decide_eq_true h390) .nil) (by kernel_rfl) (by kernel_rfl)
  · intro h
    obtain rfl := Option.some.inj h
    exact callO_ok (hs := [.run 2, .dec false, .run 3, .dec false, .run 3]) (by kernel_rfl) (.cons (decide_eq_false (show ¬ (i388 ≥ 97) by omega)) <| .cons (decide_eq_false h390) .nil) (by kernel_rfl) (by kernel_rfl)

noncomputable def parchmentref11_bytes_l11010 (R : Nat) (s413 : List UInt8) : Nat → List UInt8 → Int → St → Option ((List UInt8 × Bool × St) ⊕ (List UInt8 × St))
  | 0, _, _, _ => none
  | r + 1, s414, i415, st416 =>
    if (i415 < (List.length s413 : Int)) then
     if ((IntKind.wrap .i64 (i415 + 1)) ≥ (List.length s413 : Int)) then
      some (.inl ([], false, st416))
     else
      Option.bind (idxS s413 i415) fun i420 =>
      Option.bind (parchmentref11_half R i420) fun i421 =>
      if (i421 > 15) then
       some (.inl ([], false, st416))
      else
       Option.bind (idxS s413 (IntKind.wrap .i64 (i415 + 1))) fun i425 =>
       Option.bind (parchmentref11_half R i425) fun i426 =>
       if (i426 > 15) then
        some (.inl ([], false, st416))
       else
        Option.bind (mkNew (buildSliceOp C0.P (C0.byref 27) 37 1 [(0, (.int .u8 (IntKind.wrap .u8 (IntKind.wrap .i64 ((IntKind.wrap .i64 (i421 * 16)) + i426)))))]) st416) fun (x435, st434) =>
        Option.bind (strOf st434 x435) fun s437 =>
        Option.bind (catS s414 s437) fun s439 =>
        parchmentref11_bytes_l11010 R s413 r s439 (IntKind.wrap .i64 (i415 + 2)) st434
    else
     some (.inr (s414, st416))
noncomputable def parchmentref11_bytes_l11010_x (o : (List UInt8 × Bool × St) ⊕ (List UInt8 × St)) : AExit × List (Nat × AV) × St := match o with
  | .inl (a0, a1, a2) => (.ret, [(2, .str a0), (3, .bool a1)], a2)
  | .inr (a0, a1) => ((.exit 0), [(4, .str a0)], a1)
theorem parchmentref11_bytes_l11010_ok (R n : Nat) (s413 : List UInt8) : ∀ (r : Nat) (s414 : List UInt8) (i415 : Int) (st416 : St) (o : (List UInt8 × Bool × St) ⊕ (List UInt8 × St)), parchmentref11_bytes_l11010 R s413 r s414 i415 st416 = some o →
    Leads 49 (loopK (fun fr k => execK C0 (callK C0 ext0 R (n + 1)) 27 R none (codeAt C0.P 27 [1, 1, 0, 1, 0, 0]) fr k) r) (modsOf (codeAt C0.P 27 [1, 1, 0, 1, 0, 0])) [(0, (.str s413)), (4, (.str s414)), (5, (.int .i64 i415))] st416 (parchmentref11_bytes_l11010_x o).1 (parchmentref11_bytes_l11010_x o).2.1 (parchmentref11_bytes_l11010_x o).2.2 := by
  intro r
  induction r with
  | zero => intro s414 i415 st416 o h; exact nomatch h
  | succ r ih =>
    intro s414 i415 st416 o
    unfold parchmentref11_bytes_l11010
    refine iteE (fun h417 => ?_) (fun h417 => ?_)
    · refine iteE (fun h418 => ?_) (fun h418 => ?_)
      · intro h
        obtain rfl := Option.some.inj h
        exact loop_done (runO_ok (hs := [.run 3, .dec true, .run 4, .dec true, .run 6]) (want := [2, 3]) (by kernel_rfl) (.cons (decide_eq_true h418) <| .cons (decide_eq_true h417) .nil)) (by kernel_rfl)
      · refine bindE fun i420 h419 => ?_
        refine bindE fun i421 h422 => ?_
        refine iteE (fun h423 => ?_) (fun h423 => ?_)
        · intro h
          obtain rfl := Option.some.inj h
          exact loop_done (runO_ok (hs := [.run 3, .dec true, .run 4, .dec false, .run 3, .val (.int .u8 i420), .call (.int .i64 i421) st416, .dec true, .run 5]) (want := [2, 3]) (by kernel_rfl) (.cons (decide_eq_true h423) <| .cons (parchmentref11_half_ok R n i420 st416 _ h422) <| .cons (idx_ok (k := .i64) (P := C0.P) (t := 9) (by kernel_rfl) h419) <| .cons (decide_eq_false h418) <| .cons (decide_eq_true h417) .nil)) (by kernel_rfl)
        · refine bindE fun i425 h424 => ?_
          refine bindE fun i426 h427 => ?_
          refine iteE (fun h428 => ?_) (fun h428 => ?_)
          · intro h
            obtain rfl := Option.some.inj h
            exact loop_done (runO_ok (hs := [.run 3, .dec true, .run 4, .dec false, .run 3, .val (.int .u8 i420), .call (.int .i64 i421) st416, .dec false, .run 5, .val (.int .u8 i425), .call (.int .i64 i426) st416, .dec true, .run 3]) (want := [2, 3]) (by kernel_rfl) (.cons (decide_eq_true h428) <| .cons (parchmentref11_half_ok R n i425 st416 _ h427) <| .cons (idx_ok (k := .i64) (P := C0.P) (t := 9) (by kernel_rfl) h424) <| .cons (decide_eq_false h423) <| .cons (parchmentref11_half_ok R n i420 st416 _ h422) <| .cons (idx_ok (k := .i64) (P := C0.P) (t := 9) (by kernel_rfl) h419) <| .cons (decide_eq_false h418) <| .cons (decide_eq_true h417) .nil)) (by kernel_rfl)
          · refine bindE fun o h433 => ?_
            obtain ⟨x435, st434⟩ := o
            refine bindE fun s437 h436 => ?_
            refine bindE fun s439 h438 => ?_
            intro h
            exact loop_more (runO_ok (hs := [.run 3, .dec true, .run 4, .dec false, .run 3, .val (.int .u8 i420), .call (.int .i64 i421) st416, .dec false, .run 5, .val (.int .u8 i425), .call (.int .i64 i426) st416, .dec false, .run 4, .val (.int .u8 i420), .run 3, .val (.int .u8 i425), .call (.int .i64 i421) st416, .run 1, .call (.int .i64 i426) st416, .run 2, .eff x435 st434, .val (.str s437), .val (.str s439), .run 4]) (want := [0, 4, 5]) (by kernel_rfl) (.cons (cat_ok h438) <| .cons (strOf_ok h436) <| .cons h433 <| .cons (parchmentref11_half_ok R n i425 st416 _ h427) <| .cons (parchmentref11_half_ok R n i420 st416 _ h422) <| .cons (idx_ok (k := .i64) (P := C0.P) (t := 9) (by kernel_rfl) h424) <| .cons (idx_ok (k := .i64) (P := C0.P) (t := 9) (by kernel_rfl) h419) <| .cons (decide_eq_false h428) <| .cons (parchmentref11_half_ok R n i425 st416 _ h427) <| .cons (idx_ok (k := .i64) (P := C0.P) (t := 9) (by kernel_rfl) h424) <| .cons (decide_eq_false h423) <| .cons (parchmentref11_half_ok R n i420 st416 _ h422) <| .cons (idx_ok (k := .i64) (P := C0.P) (t := 9) (by kernel_rfl) h419) <| .cons (decide_eq_false h418) <| .cons (decide_eq_true h417) .nil)) (ih s439 (IntKind.wrap .i64 (i415 + 2)) st434 _ h)
    · intro h
      obtain rfl := Option.some.inj h
      exact loop_done (runO_ok (hs := [.run 3, .dec false]) (want := [4]) (by kernel_rfl) (.cons (decide_eq_false h417) .nil)) (by kernel_rfl)

/- parchment/parchmentref11.bytes -/
def parchmentref11_bytes_n : Nat := 27
noncomputable def parchmentref11_bytes (R : Nat) (s372 : List UInt8) (st373 : St) : Option (List UInt8 × Bool × St) :=
  Option.bind (parchmentref11_bytes_l11010 R s372 R [] 0 st373) fun o => match o with
  | .inl (s441, b442, st443) =>
   some (s441, b442, st443)
  | .inr (s444, st445) =>
   some (s444, true, st445)
theorem parchmentref11_bytes_ok (R n : Nat) (s372 : List UInt8) (st373 : St) (r : List UInt8 × Bool × St) (h : parchmentref11_bytes R s372 st373 = some r) :
    CallsTo (callK C0 ext0 R (n + 2)) false 27 [(.str s372)] st373 (.tuple [(.str r.1), (.bool r.2.1)]) r.2.2 := by
  revert h
  unfold parchmentref11_bytes
  refine bindE fun o h440 => ?_
  rcases o with ⟨s441, b442, st443⟩ | ⟨s444, st445⟩
  · intro h
    obtain rfl := Option.some.inj h
    exact callO_ok (hs := [.run 4, .abs [0, 4, 5] .ret [(2, (.str s441)), (3, (.bool b442))] st443]) (by kernel_rfl) (.cons (loop_leads (parchmentref11_bytes_l11010_ok R n s372 R [] 0 st373 _ h440)) .nil) (by kernel_rfl) (by kernel_rfl)
  · intro h
    obtain rfl := Option.some.inj h
    exact callO_ok (hs := [.run 4, .abs [0, 4, 5] (.exit 0) [(4, (.str s444))] st445, .run 3]) (by kernel_rfl) (.cons (loop_leads (parchmentref11_bytes_l11010_ok R n s372 R [] 0 st373 _ h440)) .nil) (by kernel_rfl) (by kernel_rfl)

noncomputable def parchmentref11_Key_l11010 (R : Nat) (s466 : List UInt8) (x467 : AV) : Nat → Int → St → Option ((Bool × St) ⊕ (St))
  | 0, _, _ => none
  | r + 1, i468, st469 =>
    Option.bind (lenOf x467) fun n471 =>
    if (i468 < (n471 : Int)) then
     Option.bind (indexAddrOp C0.P 47 x467 (.int .i64 i468)) fun x474 =>
     Option.bind (loadAt C0.P st469 9 x474) fun x476 =>
     Option.bind (avStr x476) fun s477 =>
     if (s477 = s466) then
      some (.inl (true, st469))
     else
      parchmentref11_Key_l11010 R s466 x467 r (IntKind.wrap .i64 (i468 + 1)) st469
    else
     some (.inr st469)
noncomputable def parchmentref11_Key_l11010_x (o : (Bool × St) ⊕ (St)) : AExit × List (Nat × AV) × St := match o with
  | .inl (a0, a1) => (.ret, [(2, .bool a0)], a1)
  | .inr a0 => ((.exit 0), [], a0)
theorem parchmentref11_Key_l11010_ok (R n : Nat) (s466 : List UInt8) (x467 : AV) : ∀ (r : Nat) (i468 : Int) (st469 : St) (o : (Bool × St) ⊕ (St)), parchmentref11_Key_l11010 R s466 x467 r i468 st469 = some o →
    Leads 18 (loopK (fun fr k => execK C0 (callK C0 ext0 R n) 13 R none (codeAt C0.P 13 [1, 1, 0, 1, 0, 0]) fr k) r) (modsOf (codeAt C0.P 13 [1, 1, 0, 1, 0, 0])) [(0, (.str s466)), (3, x467), (4, (.int .i64 i468))] st469 (parchmentref11_Key_l11010_x o).1 (parchmentref11_Key_l11010_x o).2.1 (parchmentref11_Key_l11010_x o).2.2 := by
  intro r
  induction r with
  | zero => intro i468 st469 o h; exact nomatch h
  | succ r ih =>
    intro i468 st469 o
    unfold parchmentref11_Key_l11010
    refine bindE fun n471 h470 => ?_
    refine iteE (fun h472 => ?_) (fun h472 => ?_)
    · refine bindE fun x474 h473 => ?_
      refine bindE fun x476 h475 => ?_
      refine bindE fun s477 h478 => ?_
      obtain rfl := avStr_ok h478
      refine iteE (fun h479 => ?_) (fun h479 => ?_)
      · intro h
        obtain rfl := Option.some.inj h
        exact loop_done (runO_ok (hs := [.run 2, .val (.int .i64 (n471 : Int)), .dec true, .run 2, .val x474, .val (.str s477), .run 1, .dec true, .run 1]) (want := [2]) (by kernel_rfl) (.cons (strEqT h479) <| .cons h475 <| .cons h473 <| .cons (decide_eq_true h472) <| .cons (len_ok (P := C0.P) (t := 47) (e := 9) (by kernel_rfl) h470) .nil)) (by kernel_rfl)
      · intro h
        exact loop_more (runO_ok (hs := [.run 2, .val (.int .i64 (n471 : Int)), .dec true, .run 2, .val x474, .val (.str s477), .run 1, .dec false, .run 3]) (want := [0, 3, 4]) (by kernel_rfl) (.cons (strEqF h479) <| .cons h475 <| .cons h473 <| .cons (decide_eq_true h472) <| .cons (len_ok (P := C0.P) (t := 47) (e := 9) (by kernel_rfl) h470) .nil)) (ih (IntKind.wrap .i64 (i468 + 1)) st469 _ h)
    · intro h
      obtain rfl := Option.some.inj h
      exact loop_done (runO_ok (hs := [.run 2, .val (.int .i64 (n471 : Int)), .dec false]) (want := []) (by kernel_rfl) (.cons (decide_eq_false h472) <| .cons (len_ok (P := C0.P) (t := 47) (e := 9) (by kernel_rfl) h470) .nil)) (by kernel_rfl)

/- parchment/parchmentref11.Key -/
def parchmentref11_Key_n : Nat := 13
noncomputable def parchmentref11_Key (R : Nat) (s447 : List UInt8) (st448 : St) : Option (Bool × St) :=
  Option.bind (mkNew (buildSliceOp C0.P (C0.byref 13) 47 26 [(0, (.str [65, 78, 68])), (1, (.str [66, 89])), (2, (.str [67, 79, 85, 78, 84])), (3, (.str [67, 82, 69, 65, 84, 69])), (4, (.str [68, 69, 76, 69, 84, 69])), (5, (.str [68, 69, 83, 67])), (6, (.str [70, 65, 76, 83, 69])), (7, (.str [70, 82, 79, 77])), (8, (.str [72, 73, 83, 84, 79, 82, 89])), (9, (.str [73, 78, 68, 69, 88])), (10, (.str [73, 78, 83, 69, 82, 84])), (11, (.str [73, 78, 84, 79])), (12, (.str [73, 83])), (13, (.str [76, 73, 77, 73, 84])), (14, (.str [78, 79, 84])), (15, (.str [78, 85, 76, 76])), (16, (.str [79, 78])), (17, (.str [79, 82])), (18, (.str [79, 82, 68, 69, 82])), (19, (.str [83, 69, 76, 69, 67, 84])), (20, (.str [83, 69, 84])), (21, (.str [84, 65, 66, 76, 69])), (22, (.str [84, 82, 85, 69])), (23, (.str [85, 80, 68, 65, 84, 69])), (24, (.str [86, 65, 76, 85, 69])), (25, (.str [87, 72, 69, 82, 69]))]) st448) fun (x451, st450) =>
  Option.bind (parchmentref11_Key_l11010 R s447 x451 R 0 st450) fun o => match o with
  | .inl (b481, st482) =>
   some (b481, st482)
  | .inr st483 =>
   some (false, st483)
theorem parchmentref11_Key_ok (R n : Nat) (s447 : List UInt8) (st448 : St) (r : Bool × St) (h : parchmentref11_Key R s447 st448 = some r) :
    CallsTo (callK C0 ext0 R (n + 1)) false 13 [(.str s447)] st448 (.bool r.1) r.2 := by
  revert h
  unfold parchmentref11_Key
  refine bindE fun o h449 => ?_
  obtain ⟨x451, st450⟩ := o
  refine bindE fun o h480 => ?_
  rcases o with ⟨b481, st482⟩ | st483
  · intro h
    obtain rfl := Option.some.inj h
    exact callO_ok (hs := [.run 1, .eff x451 st450, .run 2, .abs [0, 3, 4] .ret [(2, (.bool b481))] st482]) (by kernel_rfl) (.cons (loop_leads (parchmentref11_Key_l11010_ok R n s447 x451 R 0 st450 _ h480)) <| .cons h449 .nil) (by kernel_rfl) (by kernel_rfl)
  · intro h
    obtain rfl := Option.some.inj h
    exact callO_ok (hs := [.run 1, .eff x451 st450, .run 2, .abs [0, 3, 4] (.exit 0) [] st483, .run 1]) (by kernel_rfl) (.cons (loop_leads (parchmentref11_Key_l11010_ok R n s447 x451 R 0 st450 _ h480)) <| .cons h449 .nil) (by kernel_rfl) (by kernel_rfl)

/- parchment/parchmentref11.number -/
def parchmentref11_number_n : Nat := 28
noncomputable def parchmentref11_number (R : Nat) (s494 : List UInt8) : Option (Bool) :=
  if ((List.length s494 : Int) > 1) then
   Option.bind (idxS s494 0) fun i498 =>
   if (i498 = 48) then
    some false
   else
    if ((List.length s494 : Int) > 19) then
     some false
    else
     if ((List.length s494 : Int) < 19) then
      some true
     else
      if (strLt s494 [57, 50, 50, 51, 51, 55, 50, 48, 51, 54, 56, 53, 52, 55, 55, 53, 56, 48, 55] || strEq s494 [57, 50, 50, 51, 51, 55, 50, 48, 51, 54, 56, 53, 52, 55, 55, 53, 56, 48, 55]) = true then
       some true
      else
       some false
  else
   some true
theorem parchmentref11_number_ok (R n : Nat) (s494 : List UInt8) (st495 : St) (r : Bool) (h : parchmentref11_number R s494 = some r) :
    CallsTo (callK C0 ext0 R (n + 1)) false 28 [(.str s494)] st495 (.bool r) st495 := by
  revert h
  unfold parchmentref11_number
  refine iteE (fun h496 => ?_) (fun h496 => ?_)
  · refine bindE fun i498 h497 => ?_
    refine iteE (fun h499 => ?_) (fun h499 => ?_)
    · intro h
      obtain rfl := Option.some.inj h
      exact callO_ok (hs := [.run 3, .dec true, .run 2, .val (.int .u8 i498), .dec true, .run 4]) (by kernel_rfl) (.cons (beqT h499) <| .cons (idx_ok (k := .i64) (P := C0.P) (t := 9) (by kernel_rfl) h497) <| .cons (decide_eq_true h496) .nil) (by kernel_rfl) (by kernel_rfl)
    · refine iteE (fun h500 => ?_) (fun h500 => ?_)
      · intro h
        obtain rfl := Option.some.inj h
        exact callO_ok (hs := [.run 3, .dec true, .run 2, .val (.int .u8 i498), .dec false, .run 4, .dec true, .run 2]) (by kernel_rfl) (.cons (decide_eq_true h500) <| .cons (beqF h499) <| .cons (idx_ok (k := .i64) (P := C0.P) (t := 9) (by kernel_rfl) h497) <| .cons (decide_eq_true h496) .nil) (by kernel_rfl) (by kernel_rfl)
      · refine iteE (fun h501 => ?_) (fun h501 => ?_)
        · intro h
          obtain rfl := Option.some.inj h
          exact callO_ok (hs := [.run 3, .dec true, .run 2, .val (.int .u8 i498), .dec false, .run 4, .dec false, .run 3, .dec true, .run 3]) (by kernel_rfl) (.cons (decide_eq_true h501) <| .cons (decide_eq_false h500) <| .cons (beqF h499) <| .cons (idx_ok (k := .i64) (P := C0.P) (t := 9) (by kernel_rfl) h497) <| .cons (decide_eq_true h496) .nil) (by kernel_rfl) (by kernel_rfl)
        · refine iteE (fun h502 => ?_) (fun h502 => ?_)
          · intro h
            obtain rfl := Option.some.inj h
            exact callO_ok (hs := [.run 3, .dec true, .run 2, .val (.int .u8 i498), .dec false, .run 4, .dec false, .run 3, .dec false, .run 2, .dec true, .run 2]) (by kernel_rfl) (.cons h502 <| .cons (decide_eq_false h501) <| .cons (decide_eq_false h500) <| .cons (beqF h499) <| .cons (idx_ok (k := .i64) (P := C0.P) (t := 9) (by kernel_rfl) h497) <| .cons (decide_eq_true h496) .nil) (by kernel_rfl) (by kernel_rfl)
          · intro h
            obtain rfl := Option.some.inj h
            exact callO_ok (hs := [.run 3, .dec true, .run 2, .val (.int .u8 i498), .dec false, .run 4, .dec false, .run 3, .dec false, .run 2, .dec false, .run 2]) (by kernel_rfl) (.cons (bF h502) <| .cons (decide_eq_false h501) <| .cons (decide_eq_false h500) <| .cons (beqF h499) <| .cons (idx_ok (k := .i64) (P := C0.P) (t := 9) (by kernel_rfl) h497) <| .cons (decide_eq_true h496) .nil) (by kernel_rfl) (by kernel_rfl)
  · intro h
    obtain rfl := Option.some.inj h
    exact callO_ok (hs := [.run 3, .dec false, .run 5, .dec false, .run 3, .dec true, .run 3]) (by kernel_rfl) (.cons (decide_eq_true (show ((List.length s494 : Int) < 19) by omega)) <| .cons (decide_eq_false (show ¬ ((List.length s494 : Int) > 19) by omega)) <| .cons (decide_eq_false h496) .nil) (by kernel_rfl) (by kernel_rfl)

/- parchment/parchmentref11.class -/
def parchmentref11_class_n : Nat := 17
noncomputable def parchmentref11_class (R : Nat) (i516 : Int) : Option (Int) :=
  if (i516 = 95) then
   some 1
  else
   if (i516 ≥ 65) then
    if (i516 ≤ 90) then
     some 1
    else
     if (i516 ≥ 97) then
      if (i516 ≤ 122) then
       some 1
      else
       some 0
     else
      some 0
   else
    if (i516 ≥ 48) then
     if (i516 ≤ 57) then
      some 2
     else
      some 0
    else
     if (i516 = 32) then
      some 3
     else
      if (i516 = 9) then
       some 3
      else
       if (i516 = 10) then
        some 3
       else
        some 0
theorem parchmentref11_class_ok (R n : Nat) (i516 : Int) (st517 : St) (r : Int) (h : parchmentref11_class R i516 = some r) :
    CallsTo (callK C0 ext0 R (n + 1)) false 17 [(.int .u8 i516)] st517 (.int .i64 r) st517 := by
  revert h
  unfold parchmentref11_class
  refine iteE (fun h518 => ?_) (fun h518 => ?_)
  · intro h
    obtain rfl := Option.some.inj h
    exact callO_ok (hs := [.run 2, .dec true, .run 6]) (by kernel_rfl) (.cons (beqT h518) .nil) (by kernel_rfl) (by kernel_rfl)
  · refine iteE (fun h519 => ?_) (fun h519 => ?_)
    · refine iteE (fun h520 => ?_) (fun h520 => ?_)
      · intro h
        obtain rfl := Option.some.inj h
        exact callO_ok (hs := [.run 2, .dec false, .run 2, .dec true, .run 2, .dec true, .run 6]) (by kernel_rfl) (.cons (decide_eq_true h520) <| .cons (decide_eq_true h519) <| .cons (beqF h518) .nil) (by kernel_rfl) (by kernel_rfl)
      · refine iteE (fun h521 => ?_) (fun h521 => ?_)
        · refine iteE (fun h522 => ?_) (fun h522 => ?_)
          · intro h
            obtain rfl := Option.some.inj h
            exact callO_ok (hs := [.run 2, .dec false, .run 2, .dec true, .run 2, .dec false, .run 4, .dec true, .run 2, .dec true, .run 4]) (by kernel_rfl) (.cons (decide_eq_true h522) <| .cons (decide_eq_true h521) <| .cons (decide_eq_false h520) <| .cons (decide_eq_true h519) <| .cons (beqF h518) .nil) (by kernel_rfl) (by kernel_rfl)
          · intro h
            obtain rfl := Option.some.inj h
            exact callO_ok (hs := [.run 2, .dec false, .run 2, .dec true, .run 2, .dec false, .run 4, .dec true, .run 2, .dec false, .run 4, .dec true, .run 2, .dec false, .run 3, .dec false, .run 2, .dec false, .run 3, .dec false, .run 3]) (by kernel_rfl) (.cons (beqF (show ¬ (i516 = 10) by omega)) <| .cons (beqF (show ¬ (i516 = 9) by omega)) <| .cons (beqF (show ¬ (i516 = 32) by omega)) <| .cons (decide_eq_false (show ¬ (i516 ≤ 57) by omega)) <| .cons (decide_eq_true (show (i516 ≥ 48) by omega)) <| .cons (decide_eq_false h522) <| .cons (decide_eq_true h521) <| .cons (decide_eq_false h520) <| .cons (decide_eq_true h519) <| .cons (beqF h518) .nil) (by kernel_rfl) (by kernel_rfl)
        · intro h
          obtain rfl := Option.some.inj h
          exact callO_ok (hs := [.run 2, .dec false, .run 2, .dec true, .run 2, .dec false, .run 4, .dec false, .run 5, .dec true, .run 2, .dec false, .run 3, .dec false, .run 2, .dec false, .run 3, .dec false, .run 3]) (by kernel_rfl) (.cons (beqF (show ¬ (i516 = 10) by omega)) <| .cons (beqF (show ¬ (i516 = 9) by omega)) <| .cons (beqF (show ¬ (i516 = 32) by omega)) <| .cons (decide_eq_false (show ¬ (i516 ≤ 57) by omega)) <| .cons (decide_eq_true (show (i516 ≥ 48) by omega)) <| .cons (decide_eq_false h521) <| .cons (decide_eq_false h520) <| .cons (decide_eq_true h519) <| .cons (beqF h518) .nil) (by kernel_rfl) (by kernel_rfl)
    · refine iteE (fun h523 => ?_) (fun h523 => ?_)
      · refine iteE (fun h524 => ?_) (fun h524 => ?_)
        · intro h
          obtain rfl := Option.some.inj h
          exact callO_ok (hs := [.run 2, .dec false, .run 2, .dec false, .run 5, .dec false, .run 5, .dec true, .run 2, .dec true, .run 3]) (by kernel_rfl) (.cons (decide_eq_true h524) <| .cons (decide_eq_true h523) <| .cons (decide_eq_false (show ¬ (i516 ≥ 97) by omega)) <| .cons (decide_eq_false h519) <| .cons (beqF h518) .nil) (by kernel_rfl) (by kernel_rfl)
        · intro h
          obtain rfl := Option.some.inj h
          exact callO_ok (hs := [.run 2, .dec false, .run 2, .dec false, .run 5, .dec false, .run 5, .dec true, .run 2, .dec false, .run 3, .dec false, .run 2, .dec false, .run 3, .dec false, .run 3]) (by kernel_rfl) (.cons (beqF (show ¬ (i516 = 10) by omega)) <| .cons (beqF (show ¬ (i516 = 9) by omega)) <| .cons (beqF (show ¬ (i516 = 32) by omega)) <| .cons (decide_eq_false h524) <| .cons (decide_eq_true h523) <| .cons (decide_eq_false (show ¬ (i516 ≥ 97) by omega)) <| .cons (decide_eq_false h519) <| .cons (beqF h518) .nil) (by kernel_rfl) (by kernel_rfl)
      · refine iteE (fun h525 => ?_) (fun h525 => ?_)
        · intro h
          obtain rfl := Option.some.inj h
          exact callO_ok (hs := [.run 2, .dec false, .run 2, .dec false, .run 5, .dec false, .run 5, .dec false, .run 4, .dec true, .run 6]) (by kernel_rfl) (.cons (beqT h525) <| .cons (decide_eq_false h523) <| .cons (decide_eq_false (show ¬ (i516 ≥ 97) by omega)) <| .cons (decide_eq_false h519) <| .cons (beqF h518) .nil) (by kernel_rfl) (by kernel_rfl)
        · refine iteE (fun h526 => ?_) (fun h526 => ?_)
          · intro h
            obtain rfl := Option.some.inj h
            exact callO_ok (hs := [.run 2, .dec false, .run 2, .dec false, .run 5, .dec false, .run 5, .dec false, .run 4, .dec false, .run 2, .dec true, .run 5]) (by kernel_rfl) (.cons (beqT h526) <| .cons (beqF h525) <| .cons (decide_eq_false h523) <| .cons (decide_eq_false (show ¬ (i516 ≥ 97) by omega)) <| .cons (decide_eq_false h519) <| .cons (beqF h518) .nil) (by kernel_rfl) (by kernel_rfl)
          · refine iteE (fun h527 => ?_) (fun h527 => ?_)
            · intro h
              obtain rfl := Option.some.inj h
              exact callO_ok (hs := [.run 2, .dec false, .run 2, .dec false, .run 5, .dec false, .run 5, .dec false, .run 4, .dec false, .run 2, .dec false, .run 3, .dec true, .run 3]) (by kernel_rfl) (.cons (beqT h527) <| .cons (beqF h526) <| .cons (beqF h525) <| .cons (decide_eq_false h523) <| .cons (decide_eq_false (show ¬ (i516 ≥ 97) by omega)) <| .cons (decide_eq_false h519) <| .cons (beqF h518) .nil) (by kernel_rfl) (by kernel_rfl)
            · intro h
              obtain rfl := Option.some.inj h
              exact callO_ok (hs := [.run 2, .dec false, .run 2, .dec false, .run 5, .dec false, .run 5, .dec false, .run 4, .dec false, .run 2, .dec false, .run 3, .dec false, .run 3]) (by kernel_rfl) (.cons (beqF h527) <| .cons (beqF h526) <| .cons (beqF h525) <| .cons (decide_eq_false h523) <| .cons (decide_eq_false (show ¬ (i516 ≥ 97) by omega)) <| .cons (decide_eq_false h519) <| .cons (beqF h518) .nil) (by kernel_rfl) (by kernel_rfl)

/- parchment/lex.letter -/
def lex_letter_n : Nat := 22
noncomputable def lex_letter (R : Nat) (i536 : Int) : Option (Bool) :=
  if (i536 ≥ 97) then
   if (i536 ≤ 122) then
    some true
   else
    some false
  else
   if (i536 ≥ 65) then
    if (i536 ≤ 90) then
     some true
    else
     if (i536 = 95) then
      some true
     else
      some false
   else
    some false
theorem lex_letter_ok (R n : Nat) (i536 : Int) (st537 : St) (r : Bool) (h : lex_letter R i536 = some r) :
    CallsTo (callK C0 ext0 R (n + 1)) false 22 [(.int .u8 i536)] st537 (.bool r) st537 := by
  revert h
  unfold lex_letter
  refine iteE (fun h538 => ?_) (fun h538 => ?_)
  · refine iteE (fun h539 => ?_) (fun h539 => ?_)
    · intro h
      obtain rfl := Option.some.inj h
      exact callO_ok (hs := [.run 2, .dec true, .run 2, .dec true, .run 6]) (by kernel_rfl) (.cons (decide_eq_true h539) <| .cons (decide_eq_true h538) .nil) (by kernel_rfl) (by kernel_rfl)
    · intro h
      obtain rfl := Option.some.inj h
      exact callO_ok (hs := [.run 2, .dec true, .run 2, .dec false, .run 3, .dec true, .run 2, .dec false, .run 4, .dec false, .run 2]) (by kernel_rfl) (.cons (beqF (show ¬ (i536 = 95) by omega)) <| .cons (decide_eq_false (show ¬ (i536 ≤ 90) by omega)) <| .cons (decide_eq_true (show (i536 ≥ 65) by omega)) <| .cons (decide_eq_false h539) <| .cons (decide_eq_true h538) .nil) (by kernel_rfl) (by kernel_rfl)
  · refine iteE (fun h540 => ?_) (fun h540 => ?_)
    · refine iteE (fun h541 => ?_) (fun h541 => ?_)
      · intro h
        obtain rfl := Option.some.inj h
        exact callO_ok (hs := [.run 2, .dec false, .run 4, .dec true, .run 2, .dec true, .run 5]) (by kernel_rfl) (.cons (decide_eq_true h541) <| .cons (decide_eq_true h540) <| .cons (decide_eq_false h538) .nil) (by kernel_rfl) (by kernel_rfl)
      · refine iteE (fun h542 => ?_) (fun h542 => ?_)
        · intro h
          obtain rfl := Option.some.inj h
          exact callO_ok (hs := [.run 2, .dec false, .run 4, .dec true, .run 2, .dec false, .run 4, .dec true, .run 2]) (by kernel_rfl) (.cons (beqT h542) <| .cons (decide_eq_false h541) <| .cons (decide_eq_true h540) <| .cons (decide_eq_false h538) .nil) (by kernel_rfl) (by kernel_rfl)
        · intro h
          obtain rfl := Option.some.inj h
          exact callO_ok (hs := [.run 2, .dec false, .run 4, .dec true, .run 2, .dec false, .run 4, .dec false, .run 2]) (by kernel_rfl) (.cons (beqF h542) <| .cons (decide_eq_false h541) <| .cons (decide_eq_true h540) <| .cons (decide_eq_false h538) .nil) (by kernel_rfl) (by kernel_rfl)
    · intro h
      obtain rfl := Option.some.inj h
      exact callO_ok (hs := [.run 2, .dec false, .run 4, .dec false, .run 5, .dec false, .run 2]) (by kernel_rfl) (.cons (beqF (show ¬ (i536 = 95) by omega)) <| .cons (decide_eq_false h540) <| .cons (decide_eq_false h538) .nil) (by kernel_rfl) (by kernel_rfl)

/- parchment/lex.digit -/
def lex_digit_n : Nat := 24
noncomputable def lex_digit (R : Nat) (i548 : Int) : Option (Bool) :=
  if (i548 ≥ 48) then
   if (i548 ≤ 57) then
    some true
   else
    some false
  else
   some false
theorem lex_digit_ok (R n : Nat) (i548 : Int) (st549 : St) (r : Bool) (h : lex_digit R i548 = some r) :
    CallsTo (callK C0 ext0 R (n + 1)) false 24 [(.int .u8 i548)] st549 (.bool r) st549 := by
  revert h
  unfold lex_digit
  refine iteE (fun h550 => ?_) (fun h550 => ?_)
  · refine iteE (fun h551 => ?_) (fun h551 => ?_)
    · intro h
      obtain rfl := Option.some.inj h
      exact callO_ok (hs := [.run 2, .dec true, .run 2, .dec true, .run 2]) (by kernel_rfl) (.cons (decide_eq_true h551) <| .cons (decide_eq_true h550) .nil) (by kernel_rfl) (by kernel_rfl)
    · intro h
      obtain rfl := Option.some.inj h
      exact callO_ok (hs := [.run 2, .dec true, .run 2, .dec false, .run 2]) (by kernel_rfl) (.cons (decide_eq_false h551) <| .cons (decide_eq_true h550) .nil) (by kernel_rfl) (by kernel_rfl)
  · intro h
    obtain rfl := Option.some.inj h
    exact callO_ok (hs := [.run 2, .dec false, .run 3]) (by kernel_rfl) (.cons (decide_eq_false h550) .nil) (by kernel_rfl) (by kernel_rfl)

/- parchment/lex.blank -/
def lex_blank_n : Nat := 15
noncomputable def lex_blank (R : Nat) (i558 : Int) : Option (Bool) :=
  if (i558 = 32) then
   some true
  else
   if (i558 = 10) then
    some true
   else
    if (i558 = 9) then
     some true
    else
     some false
theorem lex_blank_ok (R n : Nat) (i558 : Int) (st559 : St) (r : Bool) (h : lex_blank R i558 = some r) :
    CallsTo (callK C0 ext0 R (n + 1)) false 15 [(.int .u8 i558)] st559 (.bool r) st559 := by
  revert h
  unfold lex_blank
  refine iteE (fun h560 => ?_) (fun h560 => ?_)
  · intro h
    obtain rfl := Option.some.inj h
    exact callO_ok (hs := [.run 2, .dec true, .run 5]) (by kernel_rfl) (.cons (beqT h560) .nil) (by kernel_rfl) (by kernel_rfl)
  · refine iteE (fun h561 => ?_) (fun h561 => ?_)
    · intro h
      obtain rfl := Option.some.inj h
      exact callO_ok (hs := [.run 2, .dec false, .run 2, .dec true, .run 4]) (by kernel_rfl) (.cons (beqT h561) <| .cons (beqF h560) .nil) (by kernel_rfl) (by kernel_rfl)
    · refine iteE (fun h562 => ?_) (fun h562 => ?_)
      · intro h
        obtain rfl := Option.some.inj h
        exact callO_ok (hs := [.run 2, .dec false, .run 2, .dec false, .run 3, .dec true, .run 2]) (by kernel_rfl) (.cons (beqT h562) <| .cons (beqF h561) <| .cons (beqF h560) .nil) (by kernel_rfl) (by kernel_rfl)
      · intro h
        obtain rfl := Option.some.inj h
        exact callO_ok (hs := [.run 2, .dec false, .run 2, .dec false, .run 3, .dec false, .run 2]) (by kernel_rfl) (.cons (beqF h562) <| .cons (beqF h561) <| .cons (beqF h560) .nil) (by kernel_rfl) (by kernel_rfl)

/- parchment/lex.wordy -/
def lex_wordy_n : Nat := 31
noncomputable def lex_wordy (R : Nat) (i571 : Int) : Option (Bool) :=
  Option.bind (lex_letter R i571) fun b573 =>
  if b573 = true then
   some true
  else
   Option.bind (lex_digit R i571) fun b576 =>
   some b576
theorem lex_wordy_ok (R n : Nat) (i571 : Int) (st572 : St) (r : Bool) (h : lex_wordy R i571 = some r) :
    CallsTo (callK C0 ext0 R (n + 2)) false 31 [(.int .u8 i571)] st572 (.bool r) st572 := by
  revert h
  unfold lex_wordy
  refine bindE fun b573 h574 => ?_
  refine iteE (fun h575 => ?_) (fun h575 => ?_)
  · subst h575
    intro h
    obtain rfl := Option.some.inj h
    exact callO_ok (hs := [.run 2, .call (.bool true) st572, .run 3]) (by kernel_rfl) (.cons (lex_letter_ok R n i571 st572 _ h574) .nil) (by kernel_rfl) (by kernel_rfl)
  · obtain rfl := bF h575
    refine bindE fun b576 h577 => ?_
    intro h
    obtain rfl := Option.some.inj h
    exact callO_ok (hs := [.run 2, .call (.bool false) st572, .run 2, .call (.bool b576) st572, .run 2]) (by kernel_rfl) (.cons (lex_digit_ok R n i571 st572 _ h577) <| .cons (lex_letter_ok R n i571 st572 _ h574) .nil) (by kernel_rfl) (by kernel_rfl)

noncomputable def xlex_quoted (R : Nat) (a0 : List UInt8) : Option (List UInt8 × Int) := (lex_quoted 2000000 a0 St.empty).map fun r => (r.1, r.2.1)
noncomputable def xlex_quoted_t (args : List AV) : Option AV := match args with
  | [.str a0] => (xlex_quoted 0 a0).map fun r => (.tuple [(.str r.1), (.int .i64 r.2)])
  | _ => none
theorem xlex_quoted_c : Tellable C0 ext0 (20, xlex_quoted_t) := by
  intro args v h0
  have h : xlex_quoted_t args = some v := h0
  unfold xlex_quoted_t at h
  split at h
  · obtain ⟨q0, h2, rfl⟩ := Option.map_eq_some_iff.1 h
    obtain ⟨q, h1, rfl⟩ := Option.map_eq_some_iff.1 h2
    exact ⟨rfl, rfl, 2000000, 0 + 1, _, lex_quoted_ok 2000000 0 _ St.empty q h1⟩
  · cases h
noncomputable def xlex_hex (R : Nat) (a0 : List UInt8) : Option (List UInt8 × Bool) := (lex_hex 2000000 a0 St.empty).map fun r => (r.1, r.2.1)
noncomputable def xlex_hex_t (args : List AV) : Option AV := match args with
  | [.str a0] => (xlex_hex 0 a0).map fun r => (.tuple [(.str r.1), (.bool r.2)])
  | _ => none
theorem xlex_hex_c : Tellable C0 ext0 (21, xlex_hex_t) := by
  intro args v h0
  have h : xlex_hex_t args = some v := h0
  unfold xlex_hex_t at h
  split at h
  · obtain ⟨q0, h2, rfl⟩ := Option.map_eq_some_iff.1 h
    obtain ⟨q, h1, rfl⟩ := Option.map_eq_some_iff.1 h2
    exact ⟨rfl, rfl, 2000000, 0 + 5, _, lex_hex_ok 2000000 0 _ St.empty q h1⟩
  · cases h
noncomputable def xlex_Key (R : Nat) (a0 : List UInt8) : Option (Bool) := (lex_Key 2000000 a0 St.empty).map fun r => r.1
noncomputable def xlex_Key_t (args : List AV) : Option AV := match args with
  | [.str a0] => (xlex_Key 0 a0).map fun r => (.bool r)
  | _ => none
theorem xlex_Key_c : Tellable C0 ext0 (12, xlex_Key_t) := by
  intro args v h0
  have h : xlex_Key_t args = some v := h0
  unfold xlex_Key_t at h
  split at h
  · obtain ⟨q0, h2, rfl⟩ := Option.map_eq_some_iff.1 h
    obtain ⟨q, h1, rfl⟩ := Option.map_eq_some_iff.1 h2
    exact ⟨rfl, rfl, 2000000, 0 + 3, _, lex_Key_ok 2000000 0 _ St.empty q h1⟩
  · cases h
noncomputable def xvalue_Name (R : Nat) (a0 : List UInt8) : Option (Bool) := (value_Name 2000000 a0)
noncomputable def xvalue_Name_t (args : List AV) : Option AV := match args with
  | [.str a0] => (xvalue_Name 0 a0).map fun r => (.bool r)
  | _ => none
theorem xvalue_Name_c : Tellable C0 ext0 (32, xvalue_Name_t) := by
  intro args v h0
  have h : xvalue_Name_t args = some v := h0
  unfold xvalue_Name_t at h
  split at h
  · obtain ⟨q, h1, rfl⟩ := Option.map_eq_some_iff.1 h
    exact ⟨rfl, rfl, 2000000, 0 + 1, _, value_Name_ok 2000000 0 _ St.empty q h1⟩
  · cases h
noncomputable def xparchmentref11_quoted (R : Nat) (a0 : List UInt8) (a1 : Int) : Option (List UInt8 × Int) := (parchmentref11_quoted 2000000 a0 a1)
noncomputable def xparchmentref11_quoted_t (args : List AV) : Option AV := match args with
  | [.str a0, .int .i64 a1] => (xparchmentref11_quoted 0 a0 a1).map fun r => (.tuple [(.str r.1), (.int .i64 r.2)])
  | _ => none
theorem xparchmentref11_quoted_c : Tellable C0 ext0 (26, xparchmentref11_quoted_t) := by
  intro args v h0
  have h : xparchmentref11_quoted_t args = some v := h0
  unfold xparchmentref11_quoted_t at h
  split at h
  · obtain ⟨q, h1, rfl⟩ := Option.map_eq_some_iff.1 h
    exact ⟨rfl, rfl, 2000000, 0 + 1, _, parchmentref11_quoted_ok 2000000 0 _ _ St.empty q h1⟩
  · cases h
noncomputable def xparchmentref11_bytes (R : Nat) (a0 : List UInt8) : Option (List UInt8 × Bool) := (parchmentref11_bytes 2000000 a0 St.empty).map fun r => (r.1, r.2.1)
noncomputable def xparchmentref11_bytes_t (args : List AV) : Option AV := match args with
  | [.str a0] => (xparchmentref11_bytes 0 a0).map fun r => (.tuple [(.str r.1), (.bool r.2)])
  | _ => none
theorem xparchmentref11_bytes_c : Tellable C0 ext0 (27, xparchmentref11_bytes_t) := by
  intro args v h0
  have h : xparchmentref11_bytes_t args = some v := h0
  unfold xparchmentref11_bytes_t at h
  split at h
  · obtain ⟨q0, h2, rfl⟩ := Option.map_eq_some_iff.1 h
    obtain ⟨q, h1, rfl⟩ := Option.map_eq_some_iff.1 h2
    exact ⟨rfl, rfl, 2000000, 0 + 2, _, parchmentref11_bytes_ok 2000000 0 _ St.empty q h1⟩
  · cases h
noncomputable def xparchmentref11_Key (R : Nat) (a0 : List UInt8) : Option (Bool) := (parchmentref11_Key 2000000 a0 St.empty).map fun r => r.1
noncomputable def xparchmentref11_Key_t (args : List AV) : Option AV := match args with
  | [.str a0] => (xparchmentref11_Key 0 a0).map fun r => (.bool r)
  | _ => none
theorem xparchmentref11_Key_c : Tellable C0 ext0 (13, xparchmentref11_Key_t) := by
  intro args v h0
  have h : xparchmentref11_Key_t args = some v := h0
  unfold xparchmentref11_Key_t at h
  split at h
  · obtain ⟨q0, h2, rfl⟩ := Option.map_eq_some_iff.1 h
    obtain ⟨q, h1, rfl⟩ := Option.map_eq_some_iff.1 h2
    exact ⟨rfl, rfl, 2000000, 0 + 1, _, parchmentref11_Key_ok 2000000 0 _ St.empty q h1⟩
  · cases h
noncomputable def xparchmentref11_number (R : Nat) (a0 : List UInt8) : Option (Bool) := (parchmentref11_number 2000000 a0)
noncomputable def xparchmentref11_number_t (args : List AV) : Option AV := match args with
  | [.str a0] => (xparchmentref11_number 0 a0).map fun r => (.bool r)
  | _ => none
theorem xparchmentref11_number_c : Tellable C0 ext0 (28, xparchmentref11_number_t) := by
  intro args v h0
  have h : xparchmentref11_number_t args = some v := h0
  unfold xparchmentref11_number_t at h
  split at h
  · obtain ⟨q, h1, rfl⟩ := Option.map_eq_some_iff.1 h
    exact ⟨rfl, rfl, 2000000, 0 + 1, _, parchmentref11_number_ok 2000000 0 _ St.empty q h1⟩
  · cases h
noncomputable def xparchmentref11_class (R : Nat) (a0 : Int) : Option (Int) := (parchmentref11_class 2000000 a0)
noncomputable def xparchmentref11_class_t (args : List AV) : Option AV := match args with
  | [.int .u8 a0] => (xparchmentref11_class 0 a0).map fun r => (.int .i64 r)
  | _ => none
theorem xparchmentref11_class_c : Tellable C0 ext0 (17, xparchmentref11_class_t) := by
  intro args v h0
  have h : xparchmentref11_class_t args = some v := h0
  unfold xparchmentref11_class_t at h
  split at h
  · obtain ⟨q, h1, rfl⟩ := Option.map_eq_some_iff.1 h
    exact ⟨rfl, rfl, 2000000, 0 + 1, _, parchmentref11_class_ok 2000000 0 _ St.empty q h1⟩
  · cases h
noncomputable def xlex_letter (R : Nat) (a0 : Int) : Option (Bool) := (lex_letter 2000000 a0)
noncomputable def xlex_letter_t (args : List AV) : Option AV := match args with
  | [.int .u8 a0] => (xlex_letter 0 a0).map fun r => (.bool r)
  | _ => none
theorem xlex_letter_c : Tellable C0 ext0 (22, xlex_letter_t) := by
  intro args v h0
  have h : xlex_letter_t args = some v := h0
  unfold xlex_letter_t at h
  split at h
  · obtain ⟨q, h1, rfl⟩ := Option.map_eq_some_iff.1 h
    exact ⟨rfl, rfl, 2000000, 0 + 1, _, lex_letter_ok 2000000 0 _ St.empty q h1⟩
  · cases h
noncomputable def xlex_digit (R : Nat) (a0 : Int) : Option (Bool) := (lex_digit 2000000 a0)
noncomputable def xlex_digit_t (args : List AV) : Option AV := match args with
  | [.int .u8 a0] => (xlex_digit 0 a0).map fun r => (.bool r)
  | _ => none
theorem xlex_digit_c : Tellable C0 ext0 (24, xlex_digit_t) := by
  intro args v h0
  have h : xlex_digit_t args = some v := h0
  unfold xlex_digit_t at h
  split at h
  · obtain ⟨q, h1, rfl⟩ := Option.map_eq_some_iff.1 h
    exact ⟨rfl, rfl, 2000000, 0 + 1, _, lex_digit_ok 2000000 0 _ St.empty q h1⟩
  · cases h
noncomputable def xlex_blank (R : Nat) (a0 : Int) : Option (Bool) := (lex_blank 2000000 a0)
noncomputable def xlex_blank_t (args : List AV) : Option AV := match args with
  | [.int .u8 a0] => (xlex_blank 0 a0).map fun r => (.bool r)
  | _ => none
theorem xlex_blank_c : Tellable C0 ext0 (15, xlex_blank_t) := by
  intro args v h0
  have h : xlex_blank_t args = some v := h0
  unfold xlex_blank_t at h
  split at h
  · obtain ⟨q, h1, rfl⟩ := Option.map_eq_some_iff.1 h
    exact ⟨rfl, rfl, 2000000, 0 + 1, _, lex_blank_ok 2000000 0 _ St.empty q h1⟩
  · cases h
noncomputable def xlex_wordy (R : Nat) (a0 : Int) : Option (Bool) := (lex_wordy 2000000 a0)
noncomputable def xlex_wordy_t (args : List AV) : Option AV := match args with
  | [.int .u8 a0] => (xlex_wordy 0 a0).map fun r => (.bool r)
  | _ => none
theorem xlex_wordy_c : Tellable C0 ext0 (31, xlex_wordy_t) := by
  intro args v h0
  have h : xlex_wordy_t args = some v := h0
  unfold xlex_wordy_t at h
  split at h
  · obtain ⟨q, h1, rfl⟩ := Option.map_eq_some_iff.1 h
    exact ⟨rfl, rfl, 2000000, 0 + 2, _, lex_wordy_ok 2000000 0 _ St.empty q h1⟩
  · cases h
noncomputable def ext1_tab : List (Nat × (List AV → Option AV)) := [(20, xlex_quoted_t), (21, xlex_hex_t), (12, xlex_Key_t), (32, xvalue_Name_t), (26, xparchmentref11_quoted_t), (27, xparchmentref11_bytes_t), (13, xparchmentref11_Key_t), (28, xparchmentref11_number_t), (17, xparchmentref11_class_t), (22, xlex_letter_t), (24, xlex_digit_t), (15, xlex_blank_t), (31, xlex_wordy_t)]
noncomputable def ext1 : Ext := moreExt (specL ext1_tab) ext0
theorem ext1_ok : ExtOk C0.P ext1 := moreL_ok mixed0 ext0_ok mext0 ext0_ok (by kernel_rfl) (.cons xlex_quoted_c <| .cons xlex_hex_c <| .cons xlex_Key_c <| .cons xvalue_Name_c <| .cons xparchmentref11_quoted_c <| .cons xparchmentref11_bytes_c <| .cons xparchmentref11_Key_c <| .cons xparchmentref11_number_c <| .cons xparchmentref11_class_c <| .cons xlex_letter_c <| .cons xlex_digit_c <| .cons xlex_blank_c <| .cons xlex_wordy_c <|  .nil)
theorem xlex_quoted_s_ext1 (R : Nat) (a0 : List UInt8) (r : List UInt8 × Int) (h : xlex_quoted R a0 = some r) : ext1 20 [.str a0] = some (.tuple [(.str r.1), (.int .i64 r.2)]) :=
  more_comes ((by kernel_rfl : specL ext1_tab 20 [.str a0] = (xlex_quoted R a0).map fun r => (.tuple [(.str r.1), (.int .i64 r.2)])).trans (by rw [h]; rfl))
theorem xlex_quoted_ok_ext1 (R n : Nat) (a0 : List UInt8) (st : St) (r : List UInt8 × Int) (h : xlex_quoted R a0 = some r) : CallsTo (callK C0 ext1 R (n + 1)) false 20 [.str a0] st (.tuple [(.str r.1), (.int .i64 r.2)]) st := ext_comes (xlex_quoted_s_ext1 R a0 r h) st
theorem xlex_hex_s_ext1 (R : Nat) (a0 : List UInt8) (r : List UInt8 × Bool) (h : xlex_hex R a0 = some r) : ext1 21 [.str a0] = some (.tuple [(.str r.1), (.bool r.2)]) :=
  more_comes ((by kernel_rfl : specL ext1_tab 21 [.str a0] = (xlex_hex R a0).map fun r => (.tuple [(.str r.1), (.bool r.2)])).trans (by rw [h]; rfl))
theorem xlex_hex_ok_ext1 (R n : Nat) (a0 : List UInt8) (st : St) (r : List UInt8 × Bool) (h : xlex_hex R a0 = some r) : CallsTo (callK C0 ext1 R (n + 1)) false 21 [.str a0] st (.tuple [(.str r.1), (.bool r.2)]) st := ext_comes (xlex_hex_s_ext1 R a0 r h) st
theorem xlex_Key_s_ext1 (R : Nat) (a0 : List UInt8) (r : Bool) (h : xlex_Key R a0 = some r) : ext1 12 [.str a0] = some (.bool r) :=
  more_comes ((by kernel_rfl : specL ext1_tab 12 [.str a0] = (xlex_Key R a0).map fun r => (.bool r)).trans (by rw [h]; rfl))
theorem xlex_Key_ok_ext1 (R n : Nat) (a0 : List UInt8) (st : St) (r : Bool) (h : xlex_Key R a0 = some r) : CallsTo (callK C0 ext1 R (n + 1)) false 12 [.str a0] st (.bool r) st := ext_comes (xlex_Key_s_ext1 R a0 r h) st
theorem xvalue_Name_s_ext1 (R : Nat) (a0 : List UInt8) (r : Bool) (h : xvalue_Name R a0 = some r) : ext1 32 [.str a0] = some (.bool r) :=
  more_comes ((by kernel_rfl : specL ext1_tab 32 [.str a0] = (xvalue_Name R a0).map fun r => (.bool r)).trans (by rw [h]; rfl))
theorem xvalue_Name_ok_ext1 (R n : Nat) (a0 : List UInt8) (st : St) (r : Bool) (h : xvalue_Name R a0 = some r) : CallsTo (callK C0 ext1 R (n + 1)) false 32 [.str a0] st (.bool r) st := ext_comes (xvalue_Name_s_ext1 R a0 r h) st
theorem xparchmentref11_quoted_s_ext1 (R : Nat) (a0 : List UInt8) (a1 : Int) (r : List UInt8 × Int) (h : xparchmentref11_quoted R a0 a1 = some r) : ext1 26 [.str a0, .int .i64 a1] = some (.tuple [(.str r.1), (.int .i64 r.2)]) :=
  more_comes ((by kernel_rfl : specL ext1_tab 26 [.str a0, .int .i64 a1] = (xparchmentref11_quoted R a0 a1).map fun r => (.tuple [(.str r.1), (.int .i64 r.2)])).trans (by rw [h]; rfl))
theorem xparchmentref11_quoted_ok_ext1 (R n : Nat) (a0 : List UInt8) (a1 : Int) (st : St) (r : List UInt8 × Int) (h : xparchmentref11_quoted R a0 a1 = some r) : CallsTo (callK C0 ext1 R (n + 1)) false 26 [.str a0, .int .i64 a1] st (.tuple [(.str r.1), (.int .i64 r.2)]) st := ext_comes (xparchmentref11_quoted_s_ext1 R a0 a1 r h) st
theorem xparchmentref11_bytes_s_ext1 (R : Nat) (a0 : List UInt8) (r : List UInt8 × Bool) (h : xparchmentref11_bytes R a0 = some r) : ext1 27 [.str a0] = some (.tuple [(.str r.1), (.bool r.2)]) :=
  more_comes ((by kernel_rfl : specL ext1_tab 27 [.str a0] = (xparchmentref11_bytes R a0).map fun r => (.tuple [(.str r.1), (.bool r.2)])).trans (by rw [h]; rfl))
theorem xparchmentref11_bytes_ok_ext1 (R n : Nat) (a0 : List UInt8) (st : St) (r : List UInt8 × Bool) (h : xparchmentref11_bytes R a0 = some r) : CallsTo (callK C0 ext1 R (n + 1)) false 27 [.str a0] st (.tuple [(.str r.1), (.bool r.2)]) st := ext_comes (xparchmentref11_bytes_s_ext1 R a0 r h) st
theorem xparchmentref11_Key_s_ext1 (R : Nat) (a0 : List UInt8) (r : Bool) (h : xparchmentref11_Key R a0 = some r) : ext1 13 [.str a0] = some (.bool r) :=
  more_comes ((by kernel_rfl : specL ext1_tab 13 [.str a0] = (xparchmentref11_Key R a0).map fun r => (.bool r)).trans (by rw [h]; rfl))
theorem xparchmentref11_Key_ok_ext1 (R n : Nat) (a0 : List UInt8) (st : St) (r : Bool) (h : xparchmentref11_Key R a0 = some r) : CallsTo (callK C0 ext1 R (n + 1)) false 13 [.str a0] st (.bool r) st := ext_comes (xparchmentref11_Key_s_ext1 R a0 r h) st
theorem xparchmentref11_number_s_ext1 (R : Nat) (a0 : List UInt8) (r : Bool) (h : xparchmentref11_number R a0 = some r) : ext1 28 [.str a0] = some (.bool r) :=
  more_comes ((by kernel_rfl : specL ext1_tab 28 [.str a0] = (xparchmentref11_number R a0).map fun r => (.bool r)).trans (by rw [h]; rfl))
theorem xparchmentref11_number_ok_ext1 (R n : Nat) (a0 : List UInt8) (st : St) (r : Bool) (h : xparchmentref11_number R a0 = some r) : CallsTo (callK C0 ext1 R (n + 1)) false 28 [.str a0] st (.bool r) st := ext_comes (xparchmentref11_number_s_ext1 R a0 r h) st
theorem xparchmentref11_class_s_ext1 (R : Nat) (a0 : Int) (r : Int) (h : xparchmentref11_class R a0 = some r) : ext1 17 [.int .u8 a0] = some (.int .i64 r) :=
  more_comes ((by kernel_rfl : specL ext1_tab 17 [.int .u8 a0] = (xparchmentref11_class R a0).map fun r => (.int .i64 r)).trans (by rw [h]; rfl))
theorem xparchmentref11_class_ok_ext1 (R n : Nat) (a0 : Int) (st : St) (r : Int) (h : xparchmentref11_class R a0 = some r) : CallsTo (callK C0 ext1 R (n + 1)) false 17 [.int .u8 a0] st (.int .i64 r) st := ext_comes (xparchmentref11_class_s_ext1 R a0 r h) st
theorem xlex_letter_s_ext1 (R : Nat) (a0 : Int) (r : Bool) (h : xlex_letter R a0 = some r) : ext1 22 [.int .u8 a0] = some (.bool r) :=
  more_comes ((by kernel_rfl : specL ext1_tab 22 [.int .u8 a0] = (xlex_letter R a0).map fun r => (.bool r)).trans (by rw [h]; rfl))
theorem xlex_letter_ok_ext1 (R n : Nat) (a0 : Int) (st : St) (r : Bool) (h : xlex_letter R a0 = some r) : CallsTo (callK C0 ext1 R (n + 1)) false 22 [.int .u8 a0] st (.bool r) st := ext_comes (xlex_letter_s_ext1 R a0 r h) st
theorem xlex_digit_s_ext1 (R : Nat) (a0 : Int) (r : Bool) (h : xlex_digit R a0 = some r) : ext1 24 [.int .u8 a0] = some (.bool r) :=
  more_comes ((by kernel_rfl : specL ext1_tab 24 [.int .u8 a0] = (xlex_digit R a0).map fun r => (.bool r)).trans (by rw [h]; rfl))
theorem xlex_digit_ok_ext1 (R n : Nat) (a0 : Int) (st : St) (r : Bool) (h : xlex_digit R a0 = some r) : CallsTo (callK C0 ext1 R (n + 1)) false 24 [.int .u8 a0] st (.bool r) st := ext_comes (xlex_digit_s_ext1 R a0 r h) st
theorem xlex_blank_s_ext1 (R : Nat) (a0 : Int) (r : Bool) (h : xlex_blank R a0 = some r) : ext1 15 [.int .u8 a0] = some (.bool r) :=
  more_comes ((by kernel_rfl : specL ext1_tab 15 [.int .u8 a0] = (xlex_blank R a0).map fun r => (.bool r)).trans (by rw [h]; rfl))
theorem xlex_blank_ok_ext1 (R n : Nat) (a0 : Int) (st : St) (r : Bool) (h : xlex_blank R a0 = some r) : CallsTo (callK C0 ext1 R (n + 1)) false 15 [.int .u8 a0] st (.bool r) st := ext_comes (xlex_blank_s_ext1 R a0 r h) st
theorem xlex_wordy_s_ext1 (R : Nat) (a0 : Int) (r : Bool) (h : xlex_wordy R a0 = some r) : ext1 31 [.int .u8 a0] = some (.bool r) :=
  more_comes ((by kernel_rfl : specL ext1_tab 31 [.int .u8 a0] = (xlex_wordy R a0).map fun r => (.bool r)).trans (by rw [h]; rfl))
theorem xlex_wordy_ok_ext1 (R n : Nat) (a0 : Int) (st : St) (r : Bool) (h : xlex_wordy R a0 = some r) : CallsTo (callK C0 ext1 R (n + 1)) false 31 [.int .u8 a0] st (.bool r) st := ext_comes (xlex_wordy_s_ext1 R a0 r h) st
end
end Go.Proofs.Ytlmahcmmpfdglaa
