/- Walks, printed by a program: what values, their bytes and keys compute. -/
import Derived.Test.YthodfojhbbendaaGreatDoorSpT
set_option linter.all false
set_option maxRecDepth 100000
namespace Go.Proofs.YthodfojhbbendaaGreatDoor
open Go Go.Ev
noncomputable section
noncomputable def de_Ai64_b_i64_s_a_aZ (v : AV) : Option (Int × Bool × Int × List UInt8 × AV × AV) := match v with
  | .agg [.int .i64 a0, .bool a1, .int .i64 a2, .str a3, a4, a5] => some (a0, a1, a2, a3, a4, a5)
  | _ => none
theorem de_Ai64_b_i64_s_a_aZ_ok {v : AV} {a0 : Int} {a1 : Bool} {a2 : Int} {a3 : List UInt8} {a4 : AV} {a5 : AV} (h : de_Ai64_b_i64_s_a_aZ v = some (a0, a1, a2, a3, a4, a5)) : v = .agg [.int .i64 a0, .bool a1, .int .i64 a2, .str a3, a4, a5] := by
  unfold de_Ai64_b_i64_s_a_aZ at h
  split at h
  · cases h; rfl
  · cases h

noncomputable def de_As_sZ (v : AV) : Option (List UInt8 × List UInt8) := match v with
  | .agg [.str a0, .str a1] => some (a0, a1)
  | _ => none
theorem de_As_sZ_ok {v : AV} {a0 : List UInt8} {a1 : List UInt8} (h : de_As_sZ v = some (a0, a1)) : v = .agg [.str a0, .str a1] := by
  unfold de_As_sZ at h
  split at h
  · cases h; rfl
  · cases h

/-- A group of functions that call one another: how many rounds, what they come to. -/
structure Rc15 where
  n : Nat
  f15 : Int → Bool → Int → List UInt8 → AV → AV → Int → Int → St → Option (Int × Bool × Int × List UInt8 × AV × AV × St)
def Rc15.ok (R : Rc15) (n : Nat) : Prop := (∀ m, n ≤ m → ∀ (a0 : Int) (a1 : Bool) (a2 : Int) (a3 : List UInt8) (a4 : AV) (a5 : AV) (a6 : Int) (a7 : Int) (st : St) (r : Int × Bool × Int × List UInt8 × AV × AV × St), R.f15 a0 a1 a2 a3 a4 a5 a6 a7 st = some r → CallsTo (callK C0 ext0 R.n m) false 15 [(.agg [.int .i64 a0, .bool a1, .int .i64 a2, .str a3, a4, a5]), (.int .i64 a6), (.int .i64 a7)] st (.agg [.int .i64 r.1, .bool r.2.1, .int .i64 r.2.2.1, .str r.2.2.2.1, r.2.2.2.2.1, r.2.2.2.2.2.1]) r.2.2.2.2.2.2)
theorem Rc15.ok.h15 {R : Rc15} {n : Nat} (h : R.ok n) : (∀ m, n ≤ m → ∀ (a0 : Int) (a1 : Bool) (a2 : Int) (a3 : List UInt8) (a4 : AV) (a5 : AV) (a6 : Int) (a7 : Int) (st : St) (r : Int × Bool × Int × List UInt8 × AV × AV × St), R.f15 a0 a1 a2 a3 a4 a5 a6 a7 st = some r → CallsTo (callK C0 ext0 R.n m) false 15 [(.agg [.int .i64 a0, .bool a1, .int .i64 a2, .str a3, a4, a5]), (.int .i64 a6), (.int .i64 a7)] st (.agg [.int .i64 r.1, .bool r.2.1, .int .i64 r.2.2.1, .str r.2.2.2.1, r.2.2.2.2.1, r.2.2.2.2.2.1]) r.2.2.2.2.2.2) := h
theorem Rc15.ok.mono {R : Rc15} {n m : Nat} (h : R.ok n) (hn : n ≤ m) : R.ok m := fun k hk => h.h15 k (Nat.le_trans hn hk)

noncomputable def parchmentlaw03_Cut_j1100 (R : Rc15) (d38 : Nat) (st39 : St) : Option (Bool × St) :=
  Option.bind (loadAt C0.P st39 9 (.ref d38 3)) fun x41 =>
  Option.bind (avStr x41) fun s42 =>
  if ((List.length s42 : Int) > 1100) then
   some (true, st39)
  else
   some (false, st39)
theorem parchmentlaw03_Cut_j1100_ok (R : Rc15) (n : Nat) (hR : R.ok n) (d38 : Nat) (st39 : St) (r : Bool × St) (h : parchmentlaw03_Cut_j1100 R d38 st39 = some r) :
    Leads 58 (execK C0 (callK C0 ext0 R.n n) 15 R.n none (codeAt C0.P 15 [1, 1, 0, 0])) (modsOf (codeAt C0.P 15 [1, 1, 0, 0])) [(7, (.ref d38 0))] st39 .normal [(14, .bool r.1)] r.2 := by
  revert h
  unfold parchmentlaw03_Cut_j1100
  refine bindE fun x41 h40 => ?_
  refine bindE fun s42 h43 => ?_
  obtain rfl := avStr_ok h43
  refine iteE (fun h44 => ?_) (fun h44 => ?_)
  · intro h
    obtain rfl := Option.some.inj h
    exact runO_ok (hs := [.run 1, .val (.str s42), .run 1, .dec true]) (want := [14]) (by kernel_rfl) (.cons (decide_eq_true h44) <| .cons h40 .nil)
  · intro h
    obtain rfl := Option.some.inj h
    exact runO_ok (hs := [.run 1, .val (.str s42), .run 1, .dec false]) (want := [14]) (by kernel_rfl) (.cons (decide_eq_false h44) <| .cons h40 .nil)

noncomputable def parchmentlaw03_Cut_c1101 (R : Rc15) (i64 : Int) (i65 : Int) (x66 : AV) (d67 : Nat) (d68 : Nat) (b69 : Bool) (st70 : St) : Option (St) :=
  if b69 = true then
   Option.bind (loadAt C0.P st70 9 (.ref d68 3)) fun x73 =>
   Option.bind (avStr x73) fun s74 =>
   Option.bind (subS s74 0 1100) fun s77 =>
   Option.bind (storeAt C0.P st70 9 (.ref d68 3) (.str s77)) fun st79 =>
   some st79
  else
   some st70
theorem parchmentlaw03_Cut_c1101_ok (R : Rc15) (n : Nat) (hR : R.ok n) (i64 : Int) (i65 : Int) (x66 : AV) (d67 : Nat) (d68 : Nat) (b69 : Bool) (st70 : St) (r : St) (h : parchmentlaw03_Cut_c1101 R i64 i65 x66 d67 d68 b69 st70 = some r) :
    Leads 58 (execK C0 (callK C0 ext0 R.n n) 15 R.n none (codeAt C0.P 15 [1, 1, 0, 1])) (modsOf (codeAt C0.P 15 [1, 1, 0, 1])) [(1, (.int .i64 i64)), (2, (.int .i64 i65)), (3, x66), (6, (.ref d67 0)), (7, (.ref d68 0)), (14, (.bool b69))] st70 .normal [] r := by
  revert h
  unfold parchmentlaw03_Cut_c1101
  refine iteE (fun h71 => ?_) (fun h71 => ?_)
  · subst h71
    refine bindE fun x73 h72 => ?_
    refine bindE fun s74 h75 => ?_
    obtain rfl := avStr_ok h75
    refine bindE fun s77 h76 => ?_
    refine bindE fun st79 h78 => ?_
    intro h
    obtain rfl := Option.some.inj h
    exact runO_ok (hs := [.into, .run 1, .val (.str s74), .val (.str s77), .run 1, .eff AV.undef st79]) (want := []) (by kernel_rfl) (.cons (sto_ok h78) <| .cons (sub01 (k' := .i64) (P := C0.P) (t := 9) (by kernel_rfl) h76) <| .cons h72 .nil)
  · obtain rfl := bF h71
    intro h
    obtain rfl := Option.some.inj h
    exact runO_ok (hs := [.into]) (want := []) (by kernel_rfl) .nil

noncomputable def parchmentlaw03_Cut_j111100 (R : Rc15) (i92 : Int) (i93 : Int) : Option (Bool) :=
  if (i93 > i92) then
   some true
  else
   some false
theorem parchmentlaw03_Cut_j111100_ok (R : Rc15) (n : Nat) (hR : R.ok n) (i92 : Int) (i93 : Int) (st94 : St) (r : Bool) (h : parchmentlaw03_Cut_j111100 R i92 i93 = some r) :
    Leads 58 (execK C0 (callK C0 ext0 R.n n) 15 R.n none (codeAt C0.P 15 [1, 1, 1, 1, 0, 0])) (modsOf (codeAt C0.P 15 [1, 1, 1, 1, 0, 0])) [(2, (.int .i64 i92)), (8, (.int .i64 i93))] st94 .normal [(24, .bool r)] st94 := by
  revert h
  unfold parchmentlaw03_Cut_j111100
  refine iteE (fun h95 => ?_) (fun h95 => ?_)
  · intro h
    obtain rfl := Option.some.inj h
    exact runO_ok (hs := [.run 2, .dec true]) (want := [24]) (by kernel_rfl) (.cons (decide_eq_true h95) .nil)
  · intro h
    obtain rfl := Option.some.inj h
    exact runO_ok (hs := [.run 2, .dec false]) (want := [24]) (by kernel_rfl) (.cons (decide_eq_false h95) .nil)

noncomputable def parchmentlaw03_Cut_c111101 (R : Rc15) (i107 : Int) (i108 : Int) (x109 : AV) (d110 : Nat) (d111 : Nat) (i112 : Int) (b113 : Bool) : Option (Int) :=
  if b113 = true then
   some i108
  else
   some i112
theorem parchmentlaw03_Cut_c111101_ok (R : Rc15) (n : Nat) (hR : R.ok n) (i107 : Int) (i108 : Int) (x109 : AV) (d110 : Nat) (d111 : Nat) (i112 : Int) (b113 : Bool) (st114 : St) (r : Int) (h : parchmentlaw03_Cut_c111101 R i107 i108 x109 d110 d111 i112 b113 = some r) :
    Leads 58 (execK C0 (callK C0 ext0 R.n n) 15 R.n none (codeAt C0.P 15 [1, 1, 1, 1, 0, 1])) (modsOf (codeAt C0.P 15 [1, 1, 1, 1, 0, 1])) [(1, (.int .i64 i107)), (2, (.int .i64 i108)), (3, x109), (6, (.ref d110 0)), (7, (.ref d111 0)), (8, (.int .i64 i112)), (24, (.bool b113))] st114 .normal [(8, .int .i64 r)] st114 := by
  revert h
  unfold parchmentlaw03_Cut_c111101
  refine iteE (fun h115 => ?_) (fun h115 => ?_)
  · subst h115
    intro h
    obtain rfl := Option.some.inj h
    exact runO_ok (hs := [.into, .run 2]) (want := [8]) (by kernel_rfl) .nil
  · obtain rfl := bF h115
    intro h
    obtain rfl := Option.some.inj h
    exact runO_ok (hs := [.into]) (want := [8]) (by kernel_rfl) .nil

noncomputable def parchmentlaw03_Cut_j1111100 (R : Rc15) (i121 : Int) : Option (Bool) :=
  if (i121 = 0) then
   some true
  else
   some false
theorem parchmentlaw03_Cut_j1111100_ok (R : Rc15) (n : Nat) (hR : R.ok n) (i121 : Int) (st122 : St) (r : Bool) (h : parchmentlaw03_Cut_j1111100 R i121 = some r) :
    Leads 58 (execK C0 (callK C0 ext0 R.n n) 15 R.n none (codeAt C0.P 15 [1, 1, 1, 1, 1, 0, 0])) (modsOf (codeAt C0.P 15 [1, 1, 1, 1, 1, 0, 0])) [(1, (.int .i64 i121))] st122 .normal [(27, .bool r)] st122 := by
  revert h
  unfold parchmentlaw03_Cut_j1111100
  refine iteE (fun h123 => ?_) (fun h123 => ?_)
  · intro h
    obtain rfl := Option.some.inj h
    exact runO_ok (hs := [.run 1, .dec true]) (want := [27]) (by kernel_rfl) (.cons (beqT h123) .nil)
  · intro h
    obtain rfl := Option.some.inj h
    exact runO_ok (hs := [.run 1, .dec false]) (want := [27]) (by kernel_rfl) (.cons (beqF h123) .nil)

noncomputable def parchmentlaw03_Cut_c1111101 (R : Rc15) (i135 : Int) (i136 : Int) (x137 : AV) (d138 : Nat) (d139 : Nat) (i140 : Int) (b141 : Bool) : Option (Int) :=
  if b141 = true then
   some 0
  else
   some i140
theorem parchmentlaw03_Cut_c1111101_ok (R : Rc15) (n : Nat) (hR : R.ok n) (i135 : Int) (i136 : Int) (x137 : AV) (d138 : Nat) (d139 : Nat) (i140 : Int) (b141 : Bool) (st142 : St) (r : Int) (h : parchmentlaw03_Cut_c1111101 R i135 i136 x137 d138 d139 i140 b141 = some r) :
    Leads 58 (execK C0 (callK C0 ext0 R.n n) 15 R.n none (codeAt C0.P 15 [1, 1, 1, 1, 1, 0, 1])) (modsOf (codeAt C0.P 15 [1, 1, 1, 1, 1, 0, 1])) [(1, (.int .i64 i135)), (2, (.int .i64 i136)), (3, x137), (6, (.ref d138 0)), (7, (.ref d139 0)), (8, (.int .i64 i140)), (27, (.bool b141))] st142 .normal [(8, .int .i64 r)] st142 := by
  revert h
  unfold parchmentlaw03_Cut_c1111101
  refine iteE (fun h143 => ?_) (fun h143 => ?_)
  · subst h143
    intro h
    obtain rfl := Option.some.inj h
    exact runO_ok (hs := [.into, .run 1]) (want := [8]) (by kernel_rfl) .nil
  · obtain rfl := bF h143
    intro h
    obtain rfl := Option.some.inj h
    exact runO_ok (hs := [.into]) (want := [8]) (by kernel_rfl) .nil

noncomputable def parchmentlaw03_Cut_c1111111010010 (R : Rc15) (i208 : Int) (i209 : Int) (x210 : AV) (d211 : Nat) (d212 : Nat) (i213 : Int) (i214 : Int) (st215 : St) : Option (St) :=
  Option.bind (loadAt C0.P st215 23 (.ref d212 4)) fun x217 =>
  Option.bind (shift x210 4) fun x219 =>
  Option.bind (loadAt C0.P st215 23 x219) fun x221 =>
  Option.bind (indexAddrOp C0.P 23 x221 (.int .i64 i214)) fun x223 =>
  Option.bind (loadAt C0.P st215 25 x223) fun x225 =>
  Option.bind (de_Ai64_b_i64_s_a_aZ x225) fun (i226, b227, i228, s229, x230, x231) =>
  Option.bind (R.f15 i226 b227 i228 s229 x230 x231 (IntKind.wrap .i64 (i208 - 1)) 4 st215) fun (i233, b234, i235, s236, x237, x238, st240) =>
  Option.bind (loadAt C0.P st240 23 (.ref d212 4)) fun x241 =>
  if AV.beq x241 x217 = true then
   Option.bind (mkNew (buildSliceOp C0.P (C0.byref 15) 23 1 [(0, (.agg [(.int .i64 i233), (.bool b234), (.int .i64 i235), (.str s236), x237, x238]))]) st240) fun (x246, st245) =>
   Option.bind (appendOp C0.P (C0.byref 15) st245 #[23, 23] x217 x246) fun (x249, st248) =>
   Option.bind (storeAt C0.P st248 23 (.ref d212 4) x249) fun st251 =>
   some st251
  else
   none
theorem parchmentlaw03_Cut_c1111111010010_ok (R : Rc15) (n : Nat) (hR : R.ok n) (i208 : Int) (i209 : Int) (x210 : AV) (d211 : Nat) (d212 : Nat) (i213 : Int) (i214 : Int) (st215 : St) (r : St) (h : parchmentlaw03_Cut_c1111111010010 R i208 i209 x210 d211 d212 i213 i214 st215 = some r) :
    Leads 58 (execK C0 (callK C0 ext0 R.n n) 15 R.n none (codeAt C0.P 15 [1, 1, 1, 1, 1, 1, 1, 0, 1, 0, 0, 1, 0])) (modsOf (codeAt C0.P 15 [1, 1, 1, 1, 1, 1, 1, 0, 1, 0, 0, 1, 0])) [(1, (.int .i64 i208)), (2, (.int .i64 i209)), (3, x210), (6, (.ref d211 0)), (7, (.ref d212 0)), (8, (.int .i64 i213)), (9, (.int .i64 i214))] st215 .normal [] r := by
  revert h
  unfold parchmentlaw03_Cut_c1111111010010
  refine bindE fun x217 h216 => ?_
  refine bindE fun x219 h218 => ?_
  refine bindE fun x221 h220 => ?_
  refine bindE fun x223 h222 => ?_
  refine bindE fun x225 h224 => ?_
  refine bindE fun o h232 => ?_
  obtain ⟨i226, b227, i228, s229, x230, x231⟩ := o
  obtain rfl := de_Ai64_b_i64_s_a_aZ_ok h232
  refine bindE fun o h239 => ?_
  obtain ⟨i233, b234, i235, s236, x237, x238, st240⟩ := o
  refine bindE fun x241 h242 => ?_
  refine iteE (fun h243 => ?_) (fun h243 => ?_)
  · refine bindE fun o h244 => ?_
    obtain ⟨x246, st245⟩ := o
    refine bindE fun o h247 => ?_
    obtain ⟨x249, st248⟩ := o
    refine bindE fun st251 h250 => ?_
    intro h
    obtain rfl := Option.some.inj h
    exact runO_ok (hs := [.into, .run 1, .val x217, .val x219, .val x221, .run 1, .val x223, .val (.agg [(.int .i64 i226), (.bool b227), (.int .i64 i228), (.str s229), x230, x231]), .run 2, .call (.agg [(.int .i64 i233), (.bool b234), (.int .i64 i235), (.str s236), x237, x238]) st240, .eff x246 st245, .eff x249 st248, .run 1, .eff AV.undef st251]) (want := []) (by kernel_rfl) (.cons (sto_ok h250) <| .cons h247 <| .cons h244 <| .cons (ask_ok h242 h243) <| .cons (hR.h15 n (by omega) i226 b227 i228 s229 x230 x231 (IntKind.wrap .i64 (i208 - 1)) 4 st215 _ h239) <| .cons h224 <| .cons h222 <| .cons h220 <| .cons h218 <| .cons h216 .nil)
  · exact fun h => nomatch h

noncomputable def parchmentlaw03_Cut_l1111111010 (R : Rc15) (i254 : Int) (i255 : Int) (x256 : AV) (d257 : Nat) (d258 : Nat) (i259 : Int) : Nat → Int → St → Option ((St))
  | 0, _, _ => none
  | r + 1, i260, st261 =>
    if (i260 < i259) then
     Option.bind (parchmentlaw03_Cut_c1111111010010 R i254 i255 x256 d257 d258 i259 i260 st261) fun st264 =>
     parchmentlaw03_Cut_l1111111010 R i254 i255 x256 d257 d258 i259 r (IntKind.wrap .i64 (i260 + 1)) st264
    else
     some st261
noncomputable def parchmentlaw03_Cut_l1111111010_x (o : (St)) : AExit × List (Nat × AV) × St := match o with
  | a0 => ((.exit 0), [], a0)
theorem parchmentlaw03_Cut_l1111111010_ok (R : Rc15) (n : Nat) (hR : R.ok n) (i254 : Int) (i255 : Int) (x256 : AV) (d257 : Nat) (d258 : Nat) (i259 : Int) : ∀ (r : Nat) (i260 : Int) (st261 : St) (o : (St)), parchmentlaw03_Cut_l1111111010 R i254 i255 x256 d257 d258 i259 r i260 st261 = some o →
    Leads 58 (loopK (fun fr k => execK C0 (callK C0 ext0 R.n n) 15 R.n none (codeAt C0.P 15 [1, 1, 1, 1, 1, 1, 1, 0, 1, 0, 0]) fr k) r) (modsOf (codeAt C0.P 15 [1, 1, 1, 1, 1, 1, 1, 0, 1, 0, 0])) [(1, (.int .i64 i254)), (2, (.int .i64 i255)), (3, x256), (6, (.ref d257 0)), (7, (.ref d258 0)), (8, (.int .i64 i259)), (9, (.int .i64 i260))] st261 (parchmentlaw03_Cut_l1111111010_x o).1 (parchmentlaw03_Cut_l1111111010_x o).2.1 (parchmentlaw03_Cut_l1111111010_x o).2.2 := by
  intro r
  induction r with
  | zero => intro i260 st261 o h; exact nomatch h
  | succ r ih =>
    intro i260 st261 o
    unfold parchmentlaw03_Cut_l1111111010
    refine iteE (fun h262 => ?_) (fun h262 => ?_)
    · refine bindE fun st264 h263 => ?_
      intro h
      exact loop_more (runO_ok (hs := [.run 2, .dec true, .into, .absB [1, 2, 3, 6, 7, 8, 9] .normal [] st264, .run 3]) (want := [1, 2, 3, 6, 7, 8, 9]) (by kernel_rfl) (.cons (parchmentlaw03_Cut_c1111111010010_ok R n hR i254 i255 x256 d257 d258 i259 i260 st261 _ h263) <| .cons (decide_eq_true h262) .nil)) (ih (IntKind.wrap .i64 (i260 + 1)) st264 _ h)
    · intro h
      obtain rfl := Option.some.inj h
      exact loop_done (runO_ok (hs := [.run 2, .dec false, .into]) (want := []) (by kernel_rfl) (.cons (decide_eq_false h262) .nil)) (by kernel_rfl)

noncomputable def parchmentlaw03_Cut_c111111101 (R : Rc15) (i267 : Int) (i268 : Int) (x269 : AV) (d270 : Nat) (d271 : Nat) (i272 : Int) (st273 : St) : Option (St) :=
  Option.bind (parchmentlaw03_Cut_l1111111010 R i267 i268 x269 d270 d271 i272 R.n 0 st273) fun st275 =>
  some st275
theorem parchmentlaw03_Cut_c111111101_ok (R : Rc15) (n : Nat) (hR : R.ok n) (i267 : Int) (i268 : Int) (x269 : AV) (d270 : Nat) (d271 : Nat) (i272 : Int) (st273 : St) (r : St) (h : parchmentlaw03_Cut_c111111101 R i267 i268 x269 d270 d271 i272 st273 = some r) :
    Leads 58 (execK C0 (callK C0 ext0 R.n n) 15 R.n none (codeAt C0.P 15 [1, 1, 1, 1, 1, 1, 1, 0, 1])) (modsOf (codeAt C0.P 15 [1, 1, 1, 1, 1, 1, 1, 0, 1])) [(1, (.int .i64 i267)), (2, (.int .i64 i268)), (3, x269), (6, (.ref d270 0)), (7, (.ref d271 0)), (8, (.int .i64 i272)), (9, (.int .i64 0))] st273 .normal [] r := by
  revert h
  unfold parchmentlaw03_Cut_c111111101
  refine bindE fun st275 h274 => ?_
  intro h
  obtain rfl := Option.some.inj h
  exact runO_ok (hs := [.into, .abs [1, 2, 3, 6, 7, 8, 9] (.exit 0) [] st275]) (want := []) (by kernel_rfl) (.cons (loop_leads (parchmentlaw03_Cut_l1111111010_ok R n hR i267 i268 x269 d270 d271 i272 R.n 0 st273 _ h274)) .nil)

noncomputable def parchmentlaw03_Cut_j1111111100 (R : Rc15) (i286 : Int) (d287 : Nat) (st288 : St) : Option (Bool × St) :=
  Option.bind (loadAt C0.P st288 22 (.ref d287 5)) fun x290 =>
  Option.bind (lenOf x290) fun n292 =>
  if ((n292 : Int) > i286) then
   some (true, st288)
  else
   some (false, st288)
theorem parchmentlaw03_Cut_j1111111100_ok (R : Rc15) (n : Nat) (hR : R.ok n) (i286 : Int) (d287 : Nat) (st288 : St) (r : Bool × St) (h : parchmentlaw03_Cut_j1111111100 R i286 d287 st288 = some r) :
    Leads 58 (execK C0 (callK C0 ext0 R.n n) 15 R.n none (codeAt C0.P 15 [1, 1, 1, 1, 1, 1, 1, 1, 0, 0])) (modsOf (codeAt C0.P 15 [1, 1, 1, 1, 1, 1, 1, 1, 0, 0])) [(2, (.int .i64 i286)), (7, (.ref d287 0))] st288 .normal [(51, .bool r.1)] r.2 := by
  revert h
  unfold parchmentlaw03_Cut_j1111111100
  refine bindE fun x290 h289 => ?_
  refine bindE fun n292 h291 => ?_
  refine iteE (fun h293 => ?_) (fun h293 => ?_)
  · intro h
    obtain rfl := Option.some.inj h
    exact runO_ok (hs := [.run 1, .val x290, .val (.int .i64 (n292 : Int)), .run 1, .dec true]) (want := [51]) (by kernel_rfl) (.cons (decide_eq_true h293) <| .cons (len_ok (P := C0.P) (t := 22) (e := 9) (by kernel_rfl) h291) <| .cons h289 .nil)
  · intro h
    obtain rfl := Option.some.inj h
    exact runO_ok (hs := [.run 1, .val x290, .val (.int .i64 (n292 : Int)), .run 1, .dec false]) (want := [51]) (by kernel_rfl) (.cons (decide_eq_false h293) <| .cons (len_ok (P := C0.P) (t := 22) (e := 9) (by kernel_rfl) h291) <| .cons h289 .nil)

noncomputable def parchmentlaw03_Cut_c1111111101 (R : Rc15) (i309 : Int) (d310 : Nat) (d311 : Nat) (b312 : Bool) (st313 : St) : Option (St) :=
  if b312 = true then
   Option.bind (loadAt C0.P st313 22 (.ref d311 5)) fun x316 =>
   Option.bind (sliceSt C0.P st313 22 x316 none (some (.int .i64 i309)) none) fun x318 =>
   Option.bind (storeAt C0.P st313 22 (.ref d311 5) x318) fun st320 =>
   some st320
  else
   some st313
theorem parchmentlaw03_Cut_c1111111101_ok (R : Rc15) (n : Nat) (hR : R.ok n) (i309 : Int) (d310 : Nat) (d311 : Nat) (b312 : Bool) (st313 : St) (r : St) (h : parchmentlaw03_Cut_c1111111101 R i309 d310 d311 b312 st313 = some r) :
    Leads 58 (execK C0 (callK C0 ext0 R.n n) 15 R.n none (codeAt C0.P 15 [1, 1, 1, 1, 1, 1, 1, 1, 0, 1])) (modsOf (codeAt C0.P 15 [1, 1, 1, 1, 1, 1, 1, 1, 0, 1])) [(2, (.int .i64 i309)), (6, (.ref d310 0)), (7, (.ref d311 0)), (51, (.bool b312))] st313 .normal [] r := by
  revert h
  unfold parchmentlaw03_Cut_c1111111101
  refine iteE (fun h314 => ?_) (fun h314 => ?_)
  · subst h314
    refine bindE fun x316 h315 => ?_
    refine bindE fun x318 h317 => ?_
    refine bindE fun st320 h319 => ?_
    intro h
    obtain rfl := Option.some.inj h
    exact runO_ok (hs := [.into, .run 1, .val x316, .run 1, .val x318, .run 1, .eff AV.undef st320]) (want := []) (by kernel_rfl) (.cons (sto_ok h319) <| .cons h317 <| .cons h315 .nil)
  · obtain rfl := bF h314
    intro h
    obtain rfl := Option.some.inj h
    exact runO_ok (hs := [.into]) (want := []) (by kernel_rfl) .nil

/- parchment/parchmentlaw03.Cut -/
def parchmentlaw03_Cut_n : Nat := 15
noncomputable def parchmentlaw03_Cut (R : Rc15) (i8 : Int) (b9 : Bool) (i10 : Int) (s11 : List UInt8) (x12 : AV) (x13 : AV) (i14 : Int) (i15 : Int) (st16 : St) : Option (Int × Bool × Int × List UInt8 × AV × AV × St) :=
  Option.bind (boxOp 25 (.agg [(.int .i64 i8), (.bool b9), (.int .i64 i10), (.str s11), x12, x13]) st16) fun (x19, st18) =>
  Option.bind (loadAt C0.P (St.push st18 (.cells 25 true [(.int .i64 0), (.bool false), (.int .i64 0), (.str []), AV.snil, AV.snil])) 25 x19) fun x21 =>
  Option.bind (de_Ai64_b_i64_s_a_aZ x21) fun (i22, b23, i24, s25, x26, x27) =>
  Option.bind (storeAt C0.P (St.push (St.push st18 (.cells 25 true [(.int .i64 0), (.bool false), (.int .i64 0), (.str []), AV.snil, AV.snil])) (.cells 25 true [(.int .i64 0), (.bool false), (.int .i64 0), (.str []), AV.snil, AV.snil])) 25 (.ref (St.next (St.push st18 (.cells 25 true [(.int .i64 0), (.bool false), (.int .i64 0), (.str []), AV.snil, AV.snil]))) 0) (.agg [(.int .i64 i22), (.bool b23), (.int .i64 i24), (.str s25), x26, x27])) fun st30 =>
  Option.bind (parchmentlaw03_Cut_j1100 R (St.next (St.push st18 (.cells 25 true [(.int .i64 0), (.bool false), (.int .i64 0), (.str []), AV.snil, AV.snil]))) st30) fun (b46, st47) =>
  Option.bind (parchmentlaw03_Cut_c1101 R i14 i15 x19 (St.next st18) (St.next (St.push st18 (.cells 25 true [(.int .i64 0), (.bool false), (.int .i64 0), (.str []), AV.snil, AV.snil]))) b46 st47) fun st81 =>
  Option.bind (shift x19 4) fun x83 =>
  Option.bind (loadAt C0.P st81 23 x83) fun x85 =>
  Option.bind (lenOf x85) fun n87 =>
  Option.bind (parchmentlaw03_Cut_j111100 R i15 (n87 : Int)) fun b97 =>
  Option.bind (parchmentlaw03_Cut_c111101 R i14 i15 x19 (St.next st18) (St.next (St.push st18 (.cells 25 true [(.int .i64 0), (.bool false), (.int .i64 0), (.str []), AV.snil, AV.snil]))) (n87 : Int) b97) fun i117 =>
  Option.bind (parchmentlaw03_Cut_j1111100 R i14) fun b125 =>
  Option.bind (parchmentlaw03_Cut_c1111101 R i14 i15 x19 (St.next st18) (St.next (St.push st18 (.cells 25 true [(.int .i64 0), (.bool false), (.int .i64 0), (.str []), AV.snil, AV.snil]))) i117 b125) fun i145 =>
  Option.bind (storeAt C0.P st81 23 (.ref (St.next (St.push st18 (.cells 25 true [(.int .i64 0), (.bool false), (.int .i64 0), (.str []), AV.snil, AV.snil]))) 4) AV.snil) fun st147 =>
  Option.bind (parchmentlaw03_Cut_c111111101 R i14 i15 x19 (St.next st18) (St.next (St.push st18 (.cells 25 true [(.int .i64 0), (.bool false), (.int .i64 0), (.str []), AV.snil, AV.snil]))) i145 st147) fun st277 =>
  Option.bind (parchmentlaw03_Cut_j1111111100 R i15 (St.next (St.push st18 (.cells 25 true [(.int .i64 0), (.bool false), (.int .i64 0), (.str []), AV.snil, AV.snil]))) st277) fun (b295, st296) =>
  Option.bind (parchmentlaw03_Cut_c1111111101 R i15 (St.next st18) (St.next (St.push st18 (.cells 25 true [(.int .i64 0), (.bool false), (.int .i64 0), (.str []), AV.snil, AV.snil]))) b295 st296) fun st322 =>
  Option.bind (loadAt C0.P st322 25 (.ref (St.next (St.push st18 (.cells 25 true [(.int .i64 0), (.bool false), (.int .i64 0), (.str []), AV.snil, AV.snil]))) 0)) fun x324 =>
  Option.bind (de_Ai64_b_i64_s_a_aZ x324) fun (i325, b326, i327, s328, x329, x330) =>
  Option.bind (storeAt C0.P st322 25 (.ref (St.next st18) 0) (.agg [(.int .i64 i325), (.bool b326), (.int .i64 i327), (.str s328), x329, x330])) fun st333 =>
  Option.bind (loadAt C0.P st333 25 (.ref (St.next st18) 0)) fun x335 =>
  Option.bind (de_Ai64_b_i64_s_a_aZ x335) fun (i336, b337, i338, s339, x340, x341) =>
  some (i336, b337, i338, s339, x340, x341, st333)
theorem parchmentlaw03_Cut_ok (R : Rc15) (n : Nat) (hR : R.ok n) (i8 : Int) (b9 : Bool) (i10 : Int) (s11 : List UInt8) (x12 : AV) (x13 : AV) (i14 : Int) (i15 : Int) (st16 : St) (r : Int × Bool × Int × List UInt8 × AV × AV × St) (h : parchmentlaw03_Cut R i8 b9 i10 s11 x12 x13 i14 i15 st16 = some r) :
    CallsTo (callK C0 ext0 R.n (n + 1)) false 15 [(.agg [(.int .i64 i8), (.bool b9), (.int .i64 i10), (.str s11), x12, x13]), (.int .i64 i14), (.int .i64 i15)] st16 (.agg [.int .i64 r.1, .bool r.2.1, .int .i64 r.2.2.1, .str r.2.2.2.1, r.2.2.2.2.1, r.2.2.2.2.2.1]) r.2.2.2.2.2.2 := by
  revert h
  unfold parchmentlaw03_Cut
  refine bindE fun o h17 => ?_
  obtain ⟨x19, st18⟩ := o
  refine bindE fun x21 h20 => ?_
  refine bindE fun o h28 => ?_
  obtain ⟨i22, b23, i24, s25, x26, x27⟩ := o
  obtain rfl := de_Ai64_b_i64_s_a_aZ_ok h28
  refine bindE fun st30 h29 => ?_
  refine bindE fun o h45 => ?_
  obtain ⟨b46, st47⟩ := o
  refine bindE fun st81 h80 => ?_
  refine bindE fun x83 h82 => ?_
  refine bindE fun x85 h84 => ?_
  refine bindE fun n87 h86 => ?_
  refine bindE fun b97 h96 => ?_
  refine bindE fun i117 h116 => ?_
  refine bindE fun b125 h124 => ?_
  refine bindE fun i145 h144 => ?_
  refine bindE fun st147 h146 => ?_
  refine bindE fun st277 h276 => ?_
  refine bindE fun o h294 => ?_
  obtain ⟨b295, st296⟩ := o
  refine bindE fun st322 h321 => ?_
  refine bindE fun x324 h323 => ?_
  refine bindE fun o h331 => ?_
  obtain ⟨i325, b326, i327, s328, x329, x330⟩ := o
  obtain rfl := de_Ai64_b_i64_s_a_aZ_ok h331
  refine bindE fun st333 h332 => ?_
  refine bindE fun x335 h334 => ?_
  refine bindE fun o h342 => ?_
  obtain ⟨i336, b337, i338, s339, x340, x341⟩ := o
  obtain rfl := de_Ai64_b_i64_s_a_aZ_ok h342
  intro h
  obtain rfl := Option.some.inj h
  exact callO_ok (hs := [.eff x19 st18, .run 1, .val (.agg [(.int .i64 i22), (.bool b23), (.int .i64 i24), (.str s25), x26, x27]), .run 1, .eff AV.undef st30, .absG [7] .normal [(14, (.bool b46))] st47, .absC [1, 2, 3, 6, 7, 14] .normal [] st81, .val x83, .val x85, .val (.int .i64 (n87 : Int)), .run 1, .absG [2, 8] .normal [(24, (.bool b97))] st81, .absC [1, 2, 3, 6, 7, 8, 24] .normal [(8, (.int .i64 i117))] st81, .absG [1] .normal [(27, (.bool b125))] st81, .absC [1, 2, 3, 6, 7, 8, 27] .normal [(8, (.int .i64 i145))] st81, .run 1, .eff AV.undef st147, .run 1, .absB [1, 2, 3, 6, 7, 8, 9] .normal [] st277, .absG [2, 7] .normal [(51, (.bool b295))] st296, .absC [2, 6, 7, 51] .normal [] st322, .val (.agg [(.int .i64 i325), (.bool b326), (.int .i64 i327), (.str s328), x329, x330]), .eff AV.undef st333, .val (.agg [(.int .i64 i336), (.bool b337), (.int .i64 i338), (.str s339), x340, x341])]) (by kernel_rfl) (.cons h334 <| .cons (sto_ok h332) <| .cons h323 <| .cons (parchmentlaw03_Cut_c1111111101_ok R n hR i15 (St.next st18) (St.next (St.push st18 (.cells 25 true [(.int .i64 0), (.bool false), (.int .i64 0), (.str []), AV.snil, AV.snil]))) b295 st296 _ h321) <| .cons (parchmentlaw03_Cut_j1111111100_ok R n hR i15 (St.next (St.push st18 (.cells 25 true [(.int .i64 0), (.bool false), (.int .i64 0), (.str []), AV.snil, AV.snil]))) st277 _ h294) <| .cons (parchmentlaw03_Cut_c111111101_ok R n hR i14 i15 x19 (St.next st18) (St.next (St.push st18 (.cells 25 true [(.int .i64 0), (.bool false), (.int .i64 0), (.str []), AV.snil, AV.snil]))) i145 st147 _ h276) <| .cons (sto_ok h146) <| .cons (parchmentlaw03_Cut_c1111101_ok R n hR i14 i15 x19 (St.next st18) (St.next (St.push st18 (.cells 25 true [(.int .i64 0), (.bool false), (.int .i64 0), (.str []), AV.snil, AV.snil]))) i117 b125 st81 _ h144) <| .cons (parchmentlaw03_Cut_j1111100_ok R n hR i14 st81 _ h124) <| .cons (parchmentlaw03_Cut_c111101_ok R n hR i14 i15 x19 (St.next st18) (St.next (St.push st18 (.cells 25 true [(.int .i64 0), (.bool false), (.int .i64 0), (.str []), AV.snil, AV.snil]))) (n87 : Int) b97 st81 _ h116) <| .cons (parchmentlaw03_Cut_j111100_ok R n hR i15 (n87 : Int) st81 _ h96) <| .cons (len_ok (P := C0.P) (t := 23) (e := 25) (by kernel_rfl) h86) <| .cons h84 <| .cons h82 <| .cons (parchmentlaw03_Cut_c1101_ok R n hR i14 i15 x19 (St.next st18) (St.next (St.push st18 (.cells 25 true [(.int .i64 0), (.bool false), (.int .i64 0), (.str []), AV.snil, AV.snil]))) b46 st47 _ h80) <| .cons (parchmentlaw03_Cut_j1100_ok R n hR (St.next (St.push st18 (.cells 25 true [(.int .i64 0), (.bool false), (.int .i64 0), (.str []), AV.snil, AV.snil]))) st30 _ h45) <| .cons (sto_ok h29) <| .cons h20 <| .cons (box_ok h17) .nil) (by kernel_rfl) (by kernel_rfl)

noncomputable def rc15 (R : Nat) : Nat → Rc15
  | 0 => ⟨R, (fun _ _ _ _ _ _ _ _ _ => none)⟩
  | k + 1 => ⟨R, (fun a0 a1 a2 a3 a4 a5 a6 a7 st => parchmentlaw03_Cut (rc15 R k) a0 a1 a2 a3 a4 a5 a6 a7 st)⟩
theorem rc15_n (R : Nat) : ∀ k, (rc15 R k).n = R
  | 0 => rfl
  | _ + 1 => rfl
theorem rc15_ok (R : Nat) : ∀ k n, 1 * k ≤ n → (rc15 R k).ok n
  | 0, n, _ => (fun _ _ _ _ _ _ _ _ _ _ _ _ h => nomatch h)
  | k + 1, n, hn => 
    fun m hm a0 a1 a2 a3 a4 a5 a6 a7 st r h => by
      obtain ⟨j, rfl⟩ : ∃ j, m = j + 1 := ⟨m - 1, by omega⟩
      have := parchmentlaw03_Cut_ok (rc15 R k) j (rc15_ok R k j (by omega)) a0 a1 a2 a3 a4 a5 a6 a7 st r h
      rw [rc15_n] at this
      exact this
noncomputable def parchmentlaw03_Cut_top (R : Nat) (a0 : Int) (a1 : Bool) (a2 : Int) (a3 : List UInt8) (a4 : AV) (a5 : AV) (a6 : Int) (a7 : Int) (st : St) : Option (Int × Bool × Int × List UInt8 × AV × AV × St) := parchmentlaw03_Cut (rc15 R 4000) a0 a1 a2 a3 a4 a5 a6 a7 st
theorem parchmentlaw03_Cut_top_ok (R n : Nat) (a0 : Int) (a1 : Bool) (a2 : Int) (a3 : List UInt8) (a4 : AV) (a5 : AV) (a6 : Int) (a7 : Int) (st : St) (r : Int × Bool × Int × List UInt8 × AV × AV × St) (h : parchmentlaw03_Cut_top R a0 a1 a2 a3 a4 a5 a6 a7 st = some r) : CallsTo (callK C0 ext0 R (n + 4001)) false 15 [(.agg [.int .i64 a0, .bool a1, .int .i64 a2, .str a3, a4, a5]), (.int .i64 a6), (.int .i64 a7)] st (.agg [.int .i64 r.1, .bool r.2.1, .int .i64 r.2.2.1, .str r.2.2.2.1, r.2.2.2.2.1, r.2.2.2.2.2.1]) r.2.2.2.2.2.2 := by
  have := parchmentlaw03_Cut_ok (rc15 R 4000) (n + 4000) (rc15_ok R 4000 _ (by omega)) a0 a1 a2 a3 a4 a5 a6 a7 st r h
  rw [rc15_n] at this
  exact this

noncomputable def value_Name_j101001100110 (R : Nat) (i430 : Int) : Option (Bool) :=
  if (i430 ≥ 97) then
   if (i430 ≤ 122) then
    some true
   else
    some false
  else
   if (i430 ≥ 65) then
    if (i430 ≤ 90) then
     some true
    else
     if (i430 = 95) then
      some true
     else
      some false
   else
    some false
theorem value_Name_j101001100110_ok (R n : Nat) (i430 : Int) (st431 : St) (r : Bool) (h : value_Name_j101001100110 R i430 = some r) :
    Leads 55 (execK C0 (callK C0 ext0 R n) 129 R none (codeAt C0.P 129 [1, 0, 1, 0, 0, 1, 1, 0, 0, 1, 1, 0])) (modsOf (codeAt C0.P 129 [1, 0, 1, 0, 0, 1, 1, 0, 0, 1, 1, 0])) [(4, (.int .u8 i430))] st431 .normal [(5, .bool r)] st431 := by
  revert h
  unfold value_Name_j101001100110
  refine iteE (fun h432 => ?_) (fun h432 => ?_)
  · refine iteE (fun h433 => ?_) (fun h433 => ?_)
    · intro h
      obtain rfl := Option.some.inj h
      exact runO_ok (hs := [.run 1, .dec true, .run 2, .dec true, .run 6]) (want := [5]) (by kernel_rfl) (.cons (decide_eq_true h433) <| .cons (decide_eq_true h432) .nil)
    · intro h
      obtain rfl := Option.some.inj h
      exact runO_ok (hs := [.run 1, .dec true, .run 2, .dec false, .run 3, .dec true, .run 2, .dec false, .run 4, .dec false, .run 2]) (want := [5]) (by kernel_rfl) (.cons (beqF (show ¬ (i430 = 95) by omega)) <| .cons (decide_eq_false (show ¬ (i430 ≤ 90) by omega)) <| .cons (decide_eq_true (show (i430 ≥ 65) by omega)) <| .cons (decide_eq_false h433) <| .cons (decide_eq_true h432) .nil)
  · refine iteE (fun h434 => ?_) (fun h434 => ?_)
    · refine iteE (fun h435 => ?_) (fun h435 => ?_)
      · intro h
        obtain rfl := Option.some.inj h
        exact runO_ok (hs := [.run 1, .dec false, .run 4, .dec true, .run 2, .dec true, .run 5]) (want := [5]) (by kernel_rfl) (.cons (decide_eq_true h435) <| .cons (decide_eq_true h434) <| .cons (decide_eq_false h432) .nil)
      · refine iteE (fun h436 => ?_) (fun h436 => ?_)
        · intro h
          obtain rfl := Option.some.inj h
          exact runO_ok (hs := [.run 1, .dec false, .run 4, .dec true, .run 2, .dec false, .run 4, .dec true, .run 2]) (want := [5]) (by kernel_rfl) (.cons (beqT h436) <| .cons (decide_eq_false h435) <| .cons (decide_eq_true h434) <| .cons (decide_eq_false h432) .nil)
        · intro h
          obtain rfl := Option.some.inj h
          exact runO_ok (hs := [.run 1, .dec false, .run 4, .dec true, .run 2, .dec false, .run 4, .dec false, .run 2]) (want := [5]) (by kernel_rfl) (.cons (beqF h436) <| .cons (decide_eq_false h435) <| .cons (decide_eq_true h434) <| .cons (decide_eq_false h432) .nil)
    · intro h
      obtain rfl := Option.some.inj h
      exact runO_ok (hs := [.run 1, .dec false, .run 4, .dec false, .run 5, .dec false, .run 2]) (want := [5]) (by kernel_rfl) (.cons (beqF (show ¬ (i430 = 95) by omega)) <| .cons (decide_eq_false h434) <| .cons (decide_eq_false h432) .nil)

noncomputable def value_Name_j1010011001110 (R : Nat) (i447 : Int) (i448 : Int) (b449 : Bool) : Option (Bool) :=
  if b449 = true then
   some false
  else
   if (i447 = 0) then
    some true
   else
    if (i448 < 48) then
     some true
    else
     if (i448 > 57) then
      some true
     else
      some false
theorem value_Name_j1010011001110_ok (R n : Nat) (i447 : Int) (i448 : Int) (b449 : Bool) (st450 : St) (r : Bool) (h : value_Name_j1010011001110 R i447 i448 b449 = some r) :
    Leads 55 (execK C0 (callK C0 ext0 R n) 129 R none (codeAt C0.P 129 [1, 0, 1, 0, 0, 1, 1, 0, 0, 1, 1, 1, 0])) (modsOf (codeAt C0.P 129 [1, 0, 1, 0, 0, 1, 1, 0, 0, 1, 1, 1, 0])) [(3, (.int .i64 i447)), (4, (.int .u8 i448)), (5, (.bool b449))] st450 .normal [(45, .bool r)] st450 := by
  revert h
  unfold value_Name_j1010011001110
  refine iteE (fun h451 => ?_) (fun h451 => ?_)
  · subst h451
    intro h
    obtain rfl := Option.some.inj h
    exact runO_ok (hs := [.run 4]) (want := [45]) (by kernel_rfl) .nil
  · obtain rfl := bF h451
    refine iteE (fun h452 => ?_) (fun h452 => ?_)
    · intro h
      obtain rfl := Option.some.inj h
      exact runO_ok (hs := [.run 4, .dec true, .run 5]) (want := [45]) (by kernel_rfl) (.cons (beqT h452) .nil)
    · refine iteE (fun h453 => ?_) (fun h453 => ?_)
      · intro h
        obtain rfl := Option.some.inj h
        exact runO_ok (hs := [.run 4, .dec false, .run 2, .dec true, .run 4]) (want := [45]) (by kernel_rfl) (.cons (decide_eq_true h453) <| .cons (beqF h452) .nil)
      · refine iteE (fun h454 => ?_) (fun h454 => ?_)
        · intro h
          obtain rfl := Option.some.inj h
          exact runO_ok (hs := [.run 4, .dec false, .run 2, .dec false, .run 3, .dec true, .run 2]) (want := [45]) (by kernel_rfl) (.cons (decide_eq_true h454) <| .cons (decide_eq_false h453) <| .cons (beqF h452) .nil)
        · intro h
          obtain rfl := Option.some.inj h
          exact runO_ok (hs := [.run 4, .dec false, .run 2, .dec false, .run 3, .dec false, .run 2]) (want := [45]) (by kernel_rfl) (.cons (decide_eq_false h454) <| .cons (decide_eq_false h453) <| .cons (beqF h452) .nil)

noncomputable def value_Name_l1010 (R : Nat) (s458 : List UInt8) (i459 : Int) : Nat → Int → Option ((Bool) ⊕ (Unit))
  | 0, _ => none
  | r + 1, i460 =>
    if (i460 < i459) then
     Option.bind (idxS s458 i460) fun i464 =>
     Option.bind (value_Name_j101001100110 R i464) fun b466 =>
     Option.bind (value_Name_j1010011001110 R i460 i464 b466) fun b468 =>
     if b468 = true then
      some (.inl false)
     else
      value_Name_l1010 R s458 i459 r (IntKind.wrap .i64 (i460 + 1))
    else
     some (.inr ())
noncomputable def value_Name_l1010_x (st : St) (o : (Bool) ⊕ (Unit)) : AExit × List (Nat × AV) × St := match o with
  | .inl a0 => (.ret, [(2, .bool a0)], st)
  | .inr () => ((.exit 0), [], st)
theorem value_Name_l1010_ok (R n : Nat) (s458 : List UInt8) (i459 : Int) (st461 : St) : ∀ (r : Nat) (i460 : Int) (o : (Bool) ⊕ (Unit)), value_Name_l1010 R s458 i459 r i460 = some o →
    Leads 55 (loopK (fun fr k => execK C0 (callK C0 ext0 R n) 129 R none (codeAt C0.P 129 [1, 0, 1, 0, 0]) fr k) r) (modsOf (codeAt C0.P 129 [1, 0, 1, 0, 0])) [(0, (.str s458)), (7, (.int .i64 i459)), (8, (.int .i64 i460))] st461 (value_Name_l1010_x st461 o).1 (value_Name_l1010_x st461 o).2.1 (value_Name_l1010_x st461 o).2.2 := by
  intro r
  induction r with
  | zero => intro i460 o h; exact nomatch h
  | succ r ih =>
    intro i460 o
    unfold value_Name_l1010
    refine iteE (fun h462 => ?_) (fun h462 => ?_)
    · refine bindE fun i464 h463 => ?_
      refine bindE fun b466 h465 => ?_
      refine bindE fun b468 h467 => ?_
      refine iteE (fun h469 => ?_) (fun h469 => ?_)
      · subst h469
        intro h
        obtain rfl := Option.some.inj h
        exact loop_done (runO_ok (hs := [.dec true, .into, .into, .run 4, .val (.int .u8 i464), .run 1, .absG [4] .normal [(5, (.bool b466))] st461, .absG [3, 4, 5] .normal [(45, (.bool true))] st461, .into, .run 1]) (want := [2]) (by kernel_rfl) (.cons (value_Name_j1010011001110_ok R n i460 i464 b466 st461 _ h467) <| .cons (value_Name_j101001100110_ok R n i464 st461 _ h465) <| .cons (idx_ok (k := .i64) (P := C0.P) (t := 9) (by kernel_rfl) h463) <| .cons (decide_eq_true h462) .nil)) (by kernel_rfl)
      · obtain rfl := bF h469
        intro h
        exact loop_more (runO_ok (hs := [.dec true, .into, .into, .run 4, .val (.int .u8 i464), .run 1, .absG [4] .normal [(5, (.bool b466))] st461, .absG [3, 4, 5] .normal [(45, (.bool false))] st461, .into, .run 2]) (want := [0, 7, 8]) (by kernel_rfl) (.cons (value_Name_j1010011001110_ok R n i460 i464 b466 st461 _ h467) <| .cons (value_Name_j101001100110_ok R n i464 st461 _ h465) <| .cons (idx_ok (k := .i64) (P := C0.P) (t := 9) (by kernel_rfl) h463) <| .cons (decide_eq_true h462) .nil)) (ih (IntKind.wrap .i64 (i460 + 1)) _ h)
    · intro h
      obtain rfl := Option.some.inj h
      exact loop_done (runO_ok (hs := [.dec false, .into]) (want := []) (by kernel_rfl) (.cons (decide_eq_false h462) .nil)) (by kernel_rfl)

noncomputable def value_Name_j110 (R : Nat) (s476 : List UInt8) : Option (Bool) :=
  if ((List.length s476 : Int) ≥ 1) then
   if ((List.length s476 : Int) ≤ 16) then
    some true
   else
    some false
  else
   some false
theorem value_Name_j110_ok (R n : Nat) (s476 : List UInt8) (st477 : St) (r : Bool) (h : value_Name_j110 R s476 = some r) :
    Leads 55 (execK C0 (callK C0 ext0 R n) 129 R none (codeAt C0.P 129 [1, 1, 0])) (modsOf (codeAt C0.P 129 [1, 1, 0])) [(0, (.str s476))] st477 .normal [(2, .bool r)] st477 := by
  revert h
  unfold value_Name_j110
  refine iteE (fun h478 => ?_) (fun h478 => ?_)
  · refine iteE (fun h479 => ?_) (fun h479 => ?_)
    · intro h
      obtain rfl := Option.some.inj h
      exact runO_ok (hs := [.run 2, .dec true, .run 3, .dec true, .run 2]) (want := [2]) (by kernel_rfl) (.cons (decide_eq_true h479) <| .cons (decide_eq_true h478) .nil)
    · intro h
      obtain rfl := Option.some.inj h
      exact runO_ok (hs := [.run 2, .dec true, .run 3, .dec false, .run 2]) (want := [2]) (by kernel_rfl) (.cons (decide_eq_false h479) <| .cons (decide_eq_true h478) .nil)
  · intro h
    obtain rfl := Option.some.inj h
    exact runO_ok (hs := [.run 2, .dec false, .run 3]) (want := [2]) (by kernel_rfl) (.cons (decide_eq_false h478) .nil)

/- parchment/value.Name -/
def value_Name_n : Nat := 129
noncomputable def value_Name (R : Nat) (s414 : List UInt8) : Option (Bool) :=
  Option.bind (value_Name_l1010 R s414 (List.length s414 : Int) R 0) fun o => match o with
  | .inl b471 =>
   some b471
  | .inr _ =>
   Option.bind (value_Name_j110 R s414) fun b481 =>
   some b481
theorem value_Name_ok (R n : Nat) (s414 : List UInt8) (st415 : St) (r : Bool) (h : value_Name R s414 = some r) :
    CallsTo (callK C0 ext0 R (n + 1)) false 129 [(.str s414)] st415 (.bool r) st415 := by
  revert h
  unfold value_Name
  refine bindE fun o h470 => ?_
  rcases o with b471 | _
  · intro h
    obtain rfl := Option.some.inj h
    exact callO_ok (hs := [.run 4, .into, .abs [0, 7, 8] .ret [(2, (.bool b471))] st415]) (by kernel_rfl) (.cons (loop_leads (value_Name_l1010_ok R n s414 (List.length s414 : Int) st415 R 0 _ h470)) .nil) (by kernel_rfl) (by kernel_rfl)
  · refine bindE fun b481 h480 => ?_
    intro h
    obtain rfl := Option.some.inj h
    exact callO_ok (hs := [.run 4, .into, .abs [0, 7, 8] (.exit 0) [] st415, .absG [0] .normal [(2, (.bool b481))] st415]) (by kernel_rfl) (.cons (value_Name_j110_ok R n s414 st415 _ h480) <| .cons (loop_leads (value_Name_l1010_ok R n s414 (List.length s414 : Int) st415 R 0 _ h470)) .nil) (by kernel_rfl) (by kernel_rfl)

noncomputable def value_bare_j10 (R : Nat) (x508 : AV) (st509 : St) : Option (Bool × St) :=
  Option.bind (shift x508 0) fun x511 =>
  Option.bind (loadAt C0.P st509 3 x511) fun x513 =>
  Option.bind (avInt .i64 x513) fun i514 =>
  if (i514 = 3) then
   some (true, st509)
  else
   if (i514 = 4) then
    some (true, st509)
   else
    some (false, st509)
theorem value_bare_j10_ok (R n : Nat) (x508 : AV) (st509 : St) (r : Bool × St) (h : value_bare_j10 R x508 st509 = some r) :
    Leads 67 (execK C0 (callK C0 ext0 R n) 82 R none (codeAt C0.P 82 [1, 0])) (modsOf (codeAt C0.P 82 [1, 0])) [(1, x508)] st509 .normal [(3, .bool r.1)] r.2 := by
  revert h
  unfold value_bare_j10
  refine bindE fun x511 h510 => ?_
  refine bindE fun x513 h512 => ?_
  refine bindE fun i514 h515 => ?_
  obtain rfl := avInt_ok h515
  refine iteE (fun h516 => ?_) (fun h516 => ?_)
  · intro h
    obtain rfl := Option.some.inj h
    exact runO_ok (hs := [.val x511, .val (.int .i64 i514), .dec true, .run 3]) (want := [3]) (by kernel_rfl) (.cons (beqT h516) <| .cons h512 <| .cons h510 .nil)
  · refine iteE (fun h517 => ?_) (fun h517 => ?_)
    · intro h
      obtain rfl := Option.some.inj h
      exact runO_ok (hs := [.val x511, .val (.int .i64 i514), .dec false, .run 1, .val x511, .val (.int .i64 i514), .dec true, .run 2]) (want := [3]) (by kernel_rfl) (.cons (beqT h517) <| .cons h512 <| .cons h510 <| .cons (beqF h516) <| .cons h512 <| .cons h510 .nil)
    · intro h
      obtain rfl := Option.some.inj h
      exact runO_ok (hs := [.val x511, .val (.int .i64 i514), .dec false, .run 1, .val x511, .val (.int .i64 i514), .dec false, .run 2]) (want := [3]) (by kernel_rfl) (.cons (beqF h517) <| .cons h512 <| .cons h510 <| .cons (beqF h516) <| .cons h512 <| .cons h510 .nil)

noncomputable def value_bare_j110 (R : Nat) (x531 : AV) (st532 : St) : Option (Bool × St) :=
  Option.bind (shift x531 0) fun x534 =>
  Option.bind (loadAt C0.P st532 3 x534) fun x536 =>
  Option.bind (avInt .i64 x536) fun i537 =>
  if (i537 = 5) then
   some (true, st532)
  else
   if (i537 = 6) then
    some (true, st532)
   else
    some (false, st532)
theorem value_bare_j110_ok (R n : Nat) (x531 : AV) (st532 : St) (r : Bool × St) (h : value_bare_j110 R x531 st532 = some r) :
    Leads 67 (execK C0 (callK C0 ext0 R n) 82 R none (codeAt C0.P 82 [1, 1, 0])) (modsOf (codeAt C0.P 82 [1, 1, 0])) [(1, x531)] st532 .normal [(4, .bool r.1)] r.2 := by
  revert h
  unfold value_bare_j110
  refine bindE fun x534 h533 => ?_
  refine bindE fun x536 h535 => ?_
  refine bindE fun i537 h538 => ?_
  obtain rfl := avInt_ok h538
  refine iteE (fun h539 => ?_) (fun h539 => ?_)
  · intro h
    obtain rfl := Option.some.inj h
    exact runO_ok (hs := [.val x534, .val (.int .i64 i537), .dec true, .run 3]) (want := [4]) (by kernel_rfl) (.cons (beqT h539) <| .cons h535 <| .cons h533 .nil)
  · refine iteE (fun h540 => ?_) (fun h540 => ?_)
    · intro h
      obtain rfl := Option.some.inj h
      exact runO_ok (hs := [.val x534, .val (.int .i64 i537), .dec false, .run 1, .val x534, .val (.int .i64 i537), .dec true, .run 2]) (want := [4]) (by kernel_rfl) (.cons (beqT h540) <| .cons h535 <| .cons h533 <| .cons (beqF h539) <| .cons h535 <| .cons h533 .nil)
    · intro h
      obtain rfl := Option.some.inj h
      exact runO_ok (hs := [.val x534, .val (.int .i64 i537), .dec false, .run 1, .val x534, .val (.int .i64 i537), .dec false, .run 2]) (want := [4]) (by kernel_rfl) (.cons (beqF h540) <| .cons h535 <| .cons h533 <| .cons (beqF h539) <| .cons h535 <| .cons h533 .nil)

noncomputable def value_bare_j1110 (R : Nat) (x745 : AV) (b746 : Bool) (b747 : Bool) (st748 : St) : Option (Bool × St) :=
  Option.bind (shift x745 0) fun x750 =>
  Option.bind (loadAt C0.P st748 3 x750) fun x752 =>
  Option.bind (avInt .i64 x752) fun i753 =>
  if (i753 = 1) then
   Option.bind (shift x745 2) fun x757 =>
   Option.bind (loadAt C0.P st748 2 x757) fun x759 =>
   Option.bind (avInt .i64 x759) fun i760 =>
   if (i760 = 0) then
    if b746 = true then
     if b747 = true then
      if (i753 = 6) then
       some (true, st748)
      else
       Option.bind (shift x745 5) fun x767 =>
       Option.bind (loadAt C0.P st748 22 x767) fun x769 =>
       Option.bind (lenOf x769) fun n771 =>
       if ((n771 : Int) = 0) then
        some (true, st748)
       else
        some (false, st748)
     else
      Option.bind (shift x745 4) fun x774 =>
      Option.bind (loadAt C0.P st748 23 x774) fun x776 =>
      Option.bind (lenOf x776) fun n778 =>
      if ((n778 : Int) = 0) then
       if (i753 = 6) then
        some (true, st748)
       else
        Option.bind (shift x745 5) fun x782 =>
        Option.bind (loadAt C0.P st748 22 x782) fun x784 =>
        Option.bind (lenOf x784) fun n786 =>
        if ((n786 : Int) = 0) then
         some (true, st748)
        else
         some (false, st748)
      else
       some (false, st748)
    else
     Option.bind (shift x745 3) fun x789 =>
     Option.bind (loadAt C0.P st748 9 x789) fun x791 =>
     Option.bind (avStr x791) fun s792 =>
     if (s792 = []) then
      if b747 = true then
       if (i753 = 6) then
        some (true, st748)
       else
        Option.bind (shift x745 5) fun x798 =>
        Option.bind (loadAt C0.P st748 22 x798) fun x800 =>
        Option.bind (lenOf x800) fun n802 =>
        if ((n802 : Int) = 0) then
         some (true, st748)
        else
         some (false, st748)
      else
       Option.bind (shift x745 4) fun x805 =>
       Option.bind (loadAt C0.P st748 23 x805) fun x807 =>
       Option.bind (lenOf x807) fun n809 =>
       if ((n809 : Int) = 0) then
        if (i753 = 6) then
         some (true, st748)
        else
         Option.bind (shift x745 5) fun x813 =>
         Option.bind (loadAt C0.P st748 22 x813) fun x815 =>
         Option.bind (lenOf x815) fun n817 =>
         if ((n817 : Int) = 0) then
          some (true, st748)
         else
          some (false, st748)
       else
        some (false, st748)
     else
      some (false, st748)
   else
    some (false, st748)
  else
   Option.bind (shift x745 1) fun x820 =>
   Option.bind (loadAt C0.P st748 4 x820) fun x822 =>
   Option.bind (avBool x822) fun b823 =>
   if b823 = true then
    some (false, st748)
   else
    if (i753 = 2) then
     if b746 = true then
      if b747 = true then
       if (i753 = 6) then
        some (true, st748)
       else
        Option.bind (shift x745 5) fun x831 =>
        Option.bind (loadAt C0.P st748 22 x831) fun x833 =>
        Option.bind (lenOf x833) fun n835 =>
        if ((n835 : Int) = 0) then
         some (true, st748)
        else
         some (false, st748)
      else
       Option.bind (shift x745 4) fun x838 =>
       Option.bind (loadAt C0.P st748 23 x838) fun x840 =>
       Option.bind (lenOf x840) fun n842 =>
       if ((n842 : Int) = 0) then
        if (i753 = 6) then
         some (true, st748)
        else
         Option.bind (shift x745 5) fun x846 =>
         Option.bind (loadAt C0.P st748 22 x846) fun x848 =>
         Option.bind (lenOf x848) fun n850 =>
         if ((n850 : Int) = 0) then
          some (true, st748)
         else
          some (false, st748)
       else
        some (false, st748)
     else
      Option.bind (shift x745 3) fun x853 =>
      Option.bind (loadAt C0.P st748 9 x853) fun x855 =>
      Option.bind (avStr x855) fun s856 =>
      if (s856 = []) then
       if b747 = true then
        if (i753 = 6) then
         some (true, st748)
        else
         Option.bind (shift x745 5) fun x862 =>
         Option.bind (loadAt C0.P st748 22 x862) fun x864 =>
         Option.bind (lenOf x864) fun n866 =>
         if ((n866 : Int) = 0) then
          some (true, st748)
         else
          some (false, st748)
       else
        Option.bind (shift x745 4) fun x869 =>
        Option.bind (loadAt C0.P st748 23 x869) fun x871 =>
        Option.bind (lenOf x871) fun n873 =>
        if ((n873 : Int) = 0) then
         if (i753 = 6) then
          some (true, st748)
         else
          Option.bind (shift x745 5) fun x877 =>
          Option.bind (loadAt C0.P st748 22 x877) fun x879 =>
          Option.bind (lenOf x879) fun n881 =>
          if ((n881 : Int) = 0) then
           some (true, st748)
          else
           some (false, st748)
        else
         some (false, st748)
      else
       some (false, st748)
    else
     Option.bind (shift x745 2) fun x884 =>
     Option.bind (loadAt C0.P st748 2 x884) fun x886 =>
     Option.bind (avInt .i64 x886) fun i887 =>
     if (i887 = 0) then
      if b746 = true then
       if b747 = true then
        if (i753 = 6) then
         some (true, st748)
        else
         Option.bind (shift x745 5) fun x894 =>
         Option.bind (loadAt C0.P st748 22 x894) fun x896 =>
         Option.bind (lenOf x896) fun n898 =>
         if ((n898 : Int) = 0) then
          some (true, st748)
         else
          some (false, st748)
       else
        Option.bind (shift x745 4) fun x901 =>
        Option.bind (loadAt C0.P st748 23 x901) fun x903 =>
        Option.bind (lenOf x903) fun n905 =>
        if ((n905 : Int) = 0) then
         if (i753 = 6) then
          some (true, st748)
         else
          Option.bind (shift x745 5) fun x909 =>
          Option.bind (loadAt C0.P st748 22 x909) fun x911 =>
          Option.bind (lenOf x911) fun n913 =>
          if ((n913 : Int) = 0) then
           some (true, st748)
          else
           some (false, st748)
        else
         some (false, st748)
      else
       Option.bind (shift x745 3) fun x916 =>
       Option.bind (loadAt C0.P st748 9 x916) fun x918 =>
       Option.bind (avStr x918) fun s919 =>
       if (s919 = []) then
        if b747 = true then
         if (i753 = 6) then
          some (true, st748)
         else
          Option.bind (shift x745 5) fun x925 =>
          Option.bind (loadAt C0.P st748 22 x925) fun x927 =>
          Option.bind (lenOf x927) fun n929 =>
          if ((n929 : Int) = 0) then
           some (true, st748)
          else
           some (false, st748)
        else
         Option.bind (shift x745 4) fun x932 =>
         Option.bind (loadAt C0.P st748 23 x932) fun x934 =>
         Option.bind (lenOf x934) fun n936 =>
         if ((n936 : Int) = 0) then
          if (i753 = 6) then
           some (true, st748)
          else
           Option.bind (shift x745 5) fun x940 =>
           Option.bind (loadAt C0.P st748 22 x940) fun x942 =>
           Option.bind (lenOf x942) fun n944 =>
           if ((n944 : Int) = 0) then
            some (true, st748)
           else
            some (false, st748)
         else
          some (false, st748)
       else
        some (false, st748)
     else
      some (false, st748)
theorem value_bare_j1110_ok (R n : Nat) (x745 : AV) (b746 : Bool) (b747 : Bool) (st748 : St) (r : Bool × St) (h : value_bare_j1110 R x745 b746 b747 st748 = some r) :
    Leads 67 (execK C0 (callK C0 ext0 R n) 82 R none (codeAt C0.P 82 [1, 1, 1, 0])) (modsOf (codeAt C0.P 82 [1, 1, 1, 0])) [(1, x745), (3, (.bool b746)), (4, (.bool b747))] st748 .normal [(2, .bool r.1)] r.2 := by
  revert h
  unfold value_bare_j1110
  refine bindE fun x750 h749 => ?_
  refine bindE fun x752 h751 => ?_
  refine bindE fun i753 h754 => ?_
  obtain rfl := avInt_ok h754
  refine iteE (fun h755 => ?_) (fun h755 => ?_)
  · refine bindE fun x757 h756 => ?_
    refine bindE fun x759 h758 => ?_
    refine bindE fun i760 h761 => ?_
    obtain rfl := avInt_ok h761
    refine iteE (fun h762 => ?_) (fun h762 => ?_)
    · refine iteE (fun h763 => ?_) (fun h763 => ?_)
      · subst h763
        refine iteE (fun h764 => ?_) (fun h764 => ?_)
        · subst h764
          refine iteE (fun h765 => ?_) (fun h765 => ?_)
          · intro h
            obtain rfl := Option.some.inj h
            exact runO_ok (hs := [.val x750, .val (.int .i64 i753), .dec true, .run 3, .val x750, .val (.int .i64 i753), .dec false, .run 1, .val x757, .val (.int .i64 i760), .dec true, .run 13, .val x750, .val (.int .i64 i753), .dec true, .run 4]) (want := [2]) (by kernel_rfl) (.cons (beqT h765) <| .cons h751 <| .cons h749 <| .cons (beqT h762) <| .cons h758 <| .cons h756 <| .cons (beqF (show ¬ (i753 = 2) by omega)) <| .cons h751 <| .cons h749 <| .cons (beqT h755) <| .cons h751 <| .cons h749 .nil)
          · refine bindE fun x767 h766 => ?_
            refine bindE fun x769 h768 => ?_
            refine bindE fun n771 h770 => ?_
            refine iteE (fun h772 => ?_) (fun h772 => ?_)
            · intro h
              obtain rfl := Option.some.inj h
              exact runO_ok (hs := [.val x750, .val (.int .i64 i753), .dec true, .run 3, .val x750, .val (.int .i64 i753), .dec false, .run 1, .val x757, .val (.int .i64 i760), .dec true, .run 13, .val x750, .val (.int .i64 i753), .dec false, .run 1, .val x767, .val x769, .val (.int .i64 (n771 : Int)), .dec true, .run 3]) (want := [2]) (by kernel_rfl) (.cons (beqT h772) <| .cons (len_ok (P := C0.P) (t := 22) (e := 9) (by kernel_rfl) h770) <| .cons h768 <| .cons h766 <| .cons (beqF h765) <| .cons h751 <| .cons h749 <| .cons (beqT h762) <| .cons h758 <| .cons h756 <| .cons (beqF (show ¬ (i753 = 2) by omega)) <| .cons h751 <| .cons h749 <| .cons (beqT h755) <| .cons h751 <| .cons h749 .nil)
            · intro h
              obtain rfl := Option.some.inj h
              exact runO_ok (hs := [.val x750, .val (.int .i64 i753), .dec true, .run 3, .val x750, .val (.int .i64 i753), .dec false, .run 1, .val x757, .val (.int .i64 i760), .dec true, .run 13, .val x750, .val (.int .i64 i753), .dec false, .run 1, .val x767, .val x769, .val (.int .i64 (n771 : Int)), .dec false, .run 3]) (want := [2]) (by kernel_rfl) (.cons (beqF h772) <| .cons (len_ok (P := C0.P) (t := 22) (e := 9) (by kernel_rfl) h770) <| .cons h768 <| .cons h766 <| .cons (beqF h765) <| .cons h751 <| .cons h749 <| .cons (beqT h762) <| .cons h758 <| .cons h756 <| .cons (beqF (show ¬ (i753 = 2) by omega)) <| .cons h751 <| .cons h749 <| .cons (beqT h755) <| .cons h751 <| .cons h749 .nil)
        · obtain rfl := bF h764
          refine bindE fun x774 h773 => ?_
          refine bindE fun x776 h775 => ?_
          refine bindE fun n778 h777 => ?_
          refine iteE (fun h779 => ?_) (fun h779 => ?_)
          · refine iteE (fun h780 => ?_) (fun h780 => ?_)
            · intro h
              obtain rfl := Option.some.inj h
              exact runO_ok (hs := [.val x750, .val (.int .i64 i753), .dec true, .run 3, .val x750, .val (.int .i64 i753), .dec false, .run 1, .val x757, .val (.int .i64 i760), .dec true, .run 10, .val x774, .val x776, .val (.int .i64 (n778 : Int)), .dec true, .run 3, .val x750, .val (.int .i64 i753), .dec true, .run 4]) (want := [2]) (by kernel_rfl) (.cons (beqT h780) <| .cons h751 <| .cons h749 <| .cons (beqT h779) <| .cons (len_ok (P := C0.P) (t := 23) (e := 25) (by kernel_rfl) h777) <| .cons h775 <| .cons h773 <| .cons (beqT h762) <| .cons h758 <| .cons h756 <| .cons (beqF (show ¬ (i753 = 2) by omega)) <| .cons h751 <| .cons h749 <| .cons (beqT h755) <| .cons h751 <| .cons h749 .nil)
            · refine bindE fun x782 h781 => ?_
              refine bindE fun x784 h783 => ?_
              refine bindE fun n786 h785 => ?_
              refine iteE (fun h787 => ?_) (fun h787 => ?_)
              · intro h
                obtain rfl := Option.some.inj h
                exact runO_ok (hs := [.val x750, .val (.int .i64 i753), .dec true, .run 3, .val x750, .val (.int .i64 i753), .dec false, .run 1, .val x757, .val (.int .i64 i760), .dec true, .run 10, .val x774, .val x776, .val (.int .i64 (n778 : Int)), .dec true, .run 3, .val x750, .val (.int .i64 i753), .dec false, .run 1, .val x782, .val x784, .val (.int .i64 (n786 : Int)), .dec true, .run 3]) (want := [2]) (by kernel_rfl) (.cons (beqT h787) <| .cons (len_ok (P := C0.P) (t := 22) (e := 9) (by kernel_rfl) h785) <| .cons h783 <| .cons h781 <| .cons (beqF h780) <| .cons h751 <| .cons h749 <| .cons (beqT h779) <| .cons (len_ok (P := C0.P) (t := 23) (e := 25) (by kernel_rfl) h777) <| .cons h775 <| .cons h773 <| .cons (beqT h762) <| .cons h758 <| .cons h756 <| .cons (beqF (show ¬ (i753 = 2) by omega)) <| .cons h751 <| .cons h749 <| .cons (beqT h755) <| .cons h751 <| .cons h749 .nil)
              · intro h
                obtain rfl := Option.some.inj h
                exact runO_ok (hs := [.val x750, .val (.int .i64 i753), .dec true, .run 3, .val x750, .val (.int .i64 i753), .dec false, .run 1, .val x757, .val (.int .i64 i760), .dec true, .run 10, .val x774, .val x776, .val (.int .i64 (n778 : Int)), .dec true, .run 3, .val x750, .val (.int .i64 i753), .dec false, .run 1, .val x782, .val x784, .val (.int .i64 (n786 : Int)), .dec false, .run 3]) (want := [2]) (by kernel_rfl) (.cons (beqF h787) <| .cons (len_ok (P := C0.P) (t := 22) (e := 9) (by kernel_rfl) h785) <| .cons h783 <| .cons h781 <| .cons (beqF h780) <| .cons h751 <| .cons h749 <| .cons (beqT h779) <| .cons (len_ok (P := C0.P) (t := 23) (e := 25) (by kernel_rfl) h777) <| .cons h775 <| .cons h773 <| .cons (beqT h762) <| .cons h758 <| .cons h756 <| .cons (beqF (show ¬ (i753 = 2) by omega)) <| .cons h751 <| .cons h749 <| .cons (beqT h755) <| .cons h751 <| .cons h749 .nil)
          · intro h
            obtain rfl := Option.some.inj h
            exact runO_ok (hs := [.val x750, .val (.int .i64 i753), .dec true, .run 3, .val x750, .val (.int .i64 i753), .dec false, .run 1, .val x757, .val (.int .i64 i760), .dec true, .run 10, .val x774, .val x776, .val (.int .i64 (n778 : Int)), .dec false, .run 5]) (want := [2]) (by kernel_rfl) (.cons (beqF h779) <| .cons (len_ok (P := C0.P) (t := 23) (e := 25) (by kernel_rfl) h777) <| .cons h775 <| .cons h773 <| .cons (beqT h762) <| .cons h758 <| .cons h756 <| .cons (beqF (show ¬ (i753 = 2) by omega)) <| .cons h751 <| .cons h749 <| .cons (beqT h755) <| .cons h751 <| .cons h749 .nil)
      · obtain rfl := bF h763
        refine bindE fun x789 h788 => ?_
        refine bindE fun x791 h790 => ?_
        refine bindE fun s792 h793 => ?_
        obtain rfl := avStr_ok h793
        refine iteE (fun h794 => ?_) (fun h794 => ?_)
        · refine iteE (fun h795 => ?_) (fun h795 => ?_)
          · subst h795
            refine iteE (fun h796 => ?_) (fun h796 => ?_)
            · intro h
              obtain rfl := Option.some.inj h
              exact runO_ok (hs := [.val x750, .val (.int .i64 i753), .dec true, .run 3, .val x750, .val (.int .i64 i753), .dec false, .run 1, .val x757, .val (.int .i64 i760), .dec true, .run 5, .val x789, .val (.str s792), .dec true, .run 8, .val x750, .val (.int .i64 i753), .dec true, .run 4]) (want := [2]) (by kernel_rfl) (.cons (beqT h796) <| .cons h751 <| .cons h749 <| .cons (strEqT h794) <| .cons h790 <| .cons h788 <| .cons (beqT h762) <| .cons h758 <| .cons h756 <| .cons (beqF (show ¬ (i753 = 2) by omega)) <| .cons h751 <| .cons h749 <| .cons (beqT h755) <| .cons h751 <| .cons h749 .nil)
            · refine bindE fun x798 h797 => ?_
              refine bindE fun x800 h799 => ?_
              refine bindE fun n802 h801 => ?_
              refine iteE (fun h803 => ?_) (fun h803 => ?_)
              · intro h
                obtain rfl := Option.some.inj h
                exact runO_ok (hs := [.val x750, .val (.int .i64 i753), .dec true, .run 3, .val x750, .val (.int .i64 i753), .dec false, .run 1, .val x757, .val (.int .i64 i760), .dec true, .run 5, .val x789, .val (.str s792), .dec true, .run 8, .val x750, .val (.int .i64 i753), .dec false, .run 1, .val x798, .val x800, .val (.int .i64 (n802 : Int)), .dec true, .run 3]) (want := [2]) (by kernel_rfl) (.cons (beqT h803) <| .cons (len_ok (P := C0.P) (t := 22) (e := 9) (by kernel_rfl) h801) <| .cons h799 <| .cons h797 <| .cons (beqF h796) <| .cons h751 <| .cons h749 <| .cons (strEqT h794) <| .cons h790 <| .cons h788 <| .cons (beqT h762) <| .cons h758 <| .cons h756 <| .cons (beqF (show ¬ (i753 = 2) by omega)) <| .cons h751 <| .cons h749 <| .cons (beqT h755) <| .cons h751 <| .cons h749 .nil)
              · intro h
                obtain rfl := Option.some.inj h
                exact runO_ok (hs := [.val x750, .val (.int .i64 i753), .dec true, .run 3, .val x750, .val (.int .i64 i753), .dec false, .run 1, .val x757, .val (.int .i64 i760), .dec true, .run 5, .val x789, .val (.str s792), .dec true, .run 8, .val x750, .val (.int .i64 i753), .dec false, .run 1, .val x798, .val x800, .val (.int .i64 (n802 : Int)), .dec false, .run 3]) (want := [2]) (by kernel_rfl) (.cons (beqF h803) <| .cons (len_ok (P := C0.P) (t := 22) (e := 9) (by kernel_rfl) h801) <| .cons h799 <| .cons h797 <| .cons (beqF h796) <| .cons h751 <| .cons h749 <| .cons (strEqT h794) <| .cons h790 <| .cons h788 <| .cons (beqT h762) <| .cons h758 <| .cons h756 <| .cons (beqF (show ¬ (i753 = 2) by omega)) <| .cons h751 <| .cons h749 <| .cons (beqT h755) <| .cons h751 <| .cons h749 .nil)
          · obtain rfl := bF h795
            refine bindE fun x805 h804 => ?_
            refine bindE fun x807 h806 => ?_
            refine bindE fun n809 h808 => ?_
            refine iteE (fun h810 => ?_) (fun h810 => ?_)
            · refine iteE (fun h811 => ?_) (fun h811 => ?_)
              · intro h
                obtain rfl := Option.some.inj h
                exact runO_ok (hs := [.val x750, .val (.int .i64 i753), .dec true, .run 3, .val x750, .val (.int .i64 i753), .dec false, .run 1, .val x757, .val (.int .i64 i760), .dec true, .run 5, .val x789, .val (.str s792), .dec true, .run 5, .val x805, .val x807, .val (.int .i64 (n809 : Int)), .dec true, .run 3, .val x750, .val (.int .i64 i753), .dec true, .run 4]) (want := [2]) (by kernel_rfl) (.cons (beqT h811) <| .cons h751 <| .cons h749 <| .cons (beqT h810) <| .cons (len_ok (P := C0.P) (t := 23) (e := 25) (by kernel_rfl) h808) <| .cons h806 <| .cons h804 <| .cons (strEqT h794) <| .cons h790 <| .cons h788 <| .cons (beqT h762) <| .cons h758 <| .cons h756 <| .cons (beqF (show ¬ (i753 = 2) by omega)) <| .cons h751 <| .cons h749 <| .cons (beqT h755) <| .cons h751 <| .cons h749 .nil)
              · refine bindE fun x813 h812 => ?_
                refine bindE fun x815 h814 => ?_
                refine bindE fun n817 h816 => ?_
                refine iteE (fun h818 => ?_) (fun h818 => ?_)
                · intro h
                  obtain rfl := Option.some.inj h
                  exact runO_ok (hs := [.val x750, .val (.int .i64 i753), .dec true, .run 3, .val x750, .val (.int .i64 i753), .dec false, .run 1, .val x757, .val (.int .i64 i760), .dec true, .run 5, .val x789, .val (.str s792), .dec true, .run 5, .val x805, .val x807, .val (.int .i64 (n809 : Int)), .dec true, .run 3, .val x750, .val (.int .i64 i753), .dec false, .run 1, .val x813, .val x815, .val (.int .i64 (n817 : Int)), .dec true, .run 3]) (want := [2]) (by kernel_rfl) (.cons (beqT h818) <| .cons (len_ok (P := C0.P) (t := 22) (e := 9) (by kernel_rfl) h816) <| .cons h814 <| .cons h812 <| .cons (beqF h811) <| .cons h751 <| .cons h749 <| .cons (beqT h810) <| .cons (len_ok (P := C0.P) (t := 23) (e := 25) (by kernel_rfl) h808) <| .cons h806 <| .cons h804 <| .cons (strEqT h794) <| .cons h790 <| .cons h788 <| .cons (beqT h762) <| .cons h758 <| .cons h756 <| .cons (beqF (show ¬ (i753 = 2) by omega)) <| .cons h751 <| .cons h749 <| .cons (beqT h755) <| .cons h751 <| .cons h749 .nil)
                · intro h
                  obtain rfl := Option.some.inj h
                  exact runO_ok (hs := [.val x750, .val (.int .i64 i753), .dec true, .run 3, .val x750, .val (.int .i64 i753), .dec false, .run 1, .val x757, .val (.int .i64 i760), .dec true, .run 5, .val x789, .val (.str s792), .dec true, .run 5, .val x805, .val x807, .val (.int .i64 (n809 : Int)), .dec true, .run 3, .val x750, .val (.int .i64 i753), .dec false, .run 1, .val x813, .val x815, .val (.int .i64 (n817 : Int)), .dec false, .run 3]) (want := [2]) (by kernel_rfl) (.cons (beqF h818) <| .cons (len_ok (P := C0.P) (t := 22) (e := 9) (by kernel_rfl) h816) <| .cons h814 <| .cons h812 <| .cons (beqF h811) <| .cons h751 <| .cons h749 <| .cons (beqT h810) <| .cons (len_ok (P := C0.P) (t := 23) (e := 25) (by kernel_rfl) h808) <| .cons h806 <| .cons h804 <| .cons (strEqT h794) <| .cons h790 <| .cons h788 <| .cons (beqT h762) <| .cons h758 <| .cons h756 <| .cons (beqF (show ¬ (i753 = 2) by omega)) <| .cons h751 <| .cons h749 <| .cons (beqT h755) <| .cons h751 <| .cons h749 .nil)
            · intro h
              obtain rfl := Option.some.inj h
              exact runO_ok (hs := [.val x750, .val (.int .i64 i753), .dec true, .run 3, .val x750, .val (.int .i64 i753), .dec false, .run 1, .val x757, .val (.int .i64 i760), .dec true, .run 5, .val x789, .val (.str s792), .dec true, .run 5, .val x805, .val x807, .val (.int .i64 (n809 : Int)), .dec false, .run 5]) (want := [2]) (by kernel_rfl) (.cons (beqF h810) <| .cons (len_ok (P := C0.P) (t := 23) (e := 25) (by kernel_rfl) h808) <| .cons h806 <| .cons h804 <| .cons (strEqT h794) <| .cons h790 <| .cons h788 <| .cons (beqT h762) <| .cons h758 <| .cons h756 <| .cons (beqF (show ¬ (i753 = 2) by omega)) <| .cons h751 <| .cons h749 <| .cons (beqT h755) <| .cons h751 <| .cons h749 .nil)
        · intro h
          obtain rfl := Option.some.inj h
          exact runO_ok (hs := [.val x750, .val (.int .i64 i753), .dec true, .run 3, .val x750, .val (.int .i64 i753), .dec false, .run 1, .val x757, .val (.int .i64 i760), .dec true, .run 5, .val x789, .val (.str s792), .dec false, .run 7]) (want := [2]) (by kernel_rfl) (.cons (strEqF h794) <| .cons h790 <| .cons h788 <| .cons (beqT h762) <| .cons h758 <| .cons h756 <| .cons (beqF (show ¬ (i753 = 2) by omega)) <| .cons h751 <| .cons h749 <| .cons (beqT h755) <| .cons h751 <| .cons h749 .nil)
    · intro h
      obtain rfl := Option.some.inj h
      exact runO_ok (hs := [.val x750, .val (.int .i64 i753), .dec true, .run 3, .val x750, .val (.int .i64 i753), .dec false, .run 1, .val x757, .val (.int .i64 i760), .dec false, .run 9]) (want := [2]) (by kernel_rfl) (.cons (beqF h762) <| .cons h758 <| .cons h756 <| .cons (beqF (show ¬ (i753 = 2) by omega)) <| .cons h751 <| .cons h749 <| .cons (beqT h755) <| .cons h751 <| .cons h749 .nil)
  · refine bindE fun x820 h819 => ?_
    refine bindE fun x822 h821 => ?_
    refine bindE fun b823 h824 => ?_
    obtain rfl := avBool_ok h824
    refine iteE (fun h825 => ?_) (fun h825 => ?_)
    · subst h825
      intro h
      obtain rfl := Option.some.inj h
      exact runO_ok (hs := [.val x750, .val (.int .i64 i753), .dec false, .run 1, .val x820, .val (.bool true), .run 11]) (want := [2]) (by kernel_rfl) (.cons h821 <| .cons h819 <| .cons (beqF h755) <| .cons h751 <| .cons h749 .nil)
    · obtain rfl := bF h825
      refine iteE (fun h826 => ?_) (fun h826 => ?_)
      · refine iteE (fun h827 => ?_) (fun h827 => ?_)
        · subst h827
          refine iteE (fun h828 => ?_) (fun h828 => ?_)
          · subst h828
            refine iteE (fun h829 => ?_) (fun h829 => ?_)
            · intro h
              obtain rfl := Option.some.inj h
              exact runO_ok (hs := [.val x750, .val (.int .i64 i753), .dec false, .run 1, .val x820, .val (.bool false), .run 3, .val x750, .val (.int .i64 i753), .dec true, .run 14, .val x750, .val (.int .i64 i753), .dec true, .run 4]) (want := [2]) (by kernel_rfl) (.cons (beqT h829) <| .cons h751 <| .cons h749 <| .cons (beqT h826) <| .cons h751 <| .cons h749 <| .cons h821 <| .cons h819 <| .cons (beqF h755) <| .cons h751 <| .cons h749 .nil)
            · refine bindE fun x831 h830 => ?_
              refine bindE fun x833 h832 => ?_
              refine bindE fun n835 h834 => ?_
              refine iteE (fun h836 => ?_) (fun h836 => ?_)
              · intro h
                obtain rfl := Option.some.inj h
                exact runO_ok (hs := [.val x750, .val (.int .i64 i753), .dec false, .run 1, .val x820, .val (.bool false), .run 3, .val x750, .val (.int .i64 i753), .dec true, .run 14, .val x750, .val (.int .i64 i753), .dec false, .run 1, .val x831, .val x833, .val (.int .i64 (n835 : Int)), .dec true, .run 3]) (want := [2]) (by kernel_rfl) (.cons (beqT h836) <| .cons (len_ok (P := C0.P) (t := 22) (e := 9) (by kernel_rfl) h834) <| .cons h832 <| .cons h830 <| .cons (beqF h829) <| .cons h751 <| .cons h749 <| .cons (beqT h826) <| .cons h751 <| .cons h749 <| .cons h821 <| .cons h819 <| .cons (beqF h755) <| .cons h751 <| .cons h749 .nil)
              · intro h
                obtain rfl := Option.some.inj h
                exact runO_ok (hs := [.val x750, .val (.int .i64 i753), .dec false, .run 1, .val x820, .val (.bool false), .run 3, .val x750, .val (.int .i64 i753), .dec true, .run 14, .val x750, .val (.int .i64 i753), .dec false, .run 1, .val x831, .val x833, .val (.int .i64 (n835 : Int)), .dec false, .run 3]) (want := [2]) (by kernel_rfl) (.cons (beqF h836) <| .cons (len_ok (P := C0.P) (t := 22) (e := 9) (by kernel_rfl) h834) <| .cons h832 <| .cons h830 <| .cons (beqF h829) <| .cons h751 <| .cons h749 <| .cons (beqT h826) <| .cons h751 <| .cons h749 <| .cons h821 <| .cons h819 <| .cons (beqF h755) <| .cons h751 <| .cons h749 .nil)
          · obtain rfl := bF h828
            refine bindE fun x838 h837 => ?_
            refine bindE fun x840 h839 => ?_
            refine bindE fun n842 h841 => ?_
            refine iteE (fun h843 => ?_) (fun h843 => ?_)
            · refine iteE (fun h844 => ?_) (fun h844 => ?_)
              · intro h
                obtain rfl := Option.some.inj h
                exact runO_ok (hs := [.val x750, .val (.int .i64 i753), .dec false, .run 1, .val x820, .val (.bool false), .run 3, .val x750, .val (.int .i64 i753), .dec true, .run 11, .val x838, .val x840, .val (.int .i64 (n842 : Int)), .dec true, .run 3, .val x750, .val (.int .i64 i753), .dec true, .run 4]) (want := [2]) (by kernel_rfl) (.cons (beqT h844) <| .cons h751 <| .cons h749 <| .cons (beqT h843) <| .cons (len_ok (P := C0.P) (t := 23) (e := 25) (by kernel_rfl) h841) <| .cons h839 <| .cons h837 <| .cons (beqT h826) <| .cons h751 <| .cons h749 <| .cons h821 <| .cons h819 <| .cons (beqF h755) <| .cons h751 <| .cons h749 .nil)
              · refine bindE fun x846 h845 => ?_
                refine bindE fun x848 h847 => ?_
                refine bindE fun n850 h849 => ?_
                refine iteE (fun h851 => ?_) (fun h851 => ?_)
                · intro h
                  obtain rfl := Option.some.inj h
                  exact runO_ok (hs := [.val x750, .val (.int .i64 i753), .dec false, .run 1, .val x820, .val (.bool false), .run 3, .val x750, .val (.int .i64 i753), .dec true, .run 11, .val x838, .val x840, .val (.int .i64 (n842 : Int)), .dec true, .run 3, .val x750, .val (.int .i64 i753), .dec false, .run 1, .val x846, .val x848, .val (.int .i64 (n850 : Int)), .dec true, .run 3]) (want := [2]) (by kernel_rfl) (.cons (beqT h851) <| .cons (len_ok (P := C0.P) (t := 22) (e := 9) (by kernel_rfl) h849) <| .cons h847 <| .cons h845 <| .cons (beqF h844) <| .cons h751 <| .cons h749 <| .cons (beqT h843) <| .cons (len_ok (P := C0.P) (t := 23) (e := 25) (by kernel_rfl) h841) <| .cons h839 <| .cons h837 <| .cons (beqT h826) <| .cons h751 <| .cons h749 <| .cons h821 <| .cons h819 <| .cons (beqF h755) <| .cons h751 <| .cons h749 .nil)
                · intro h
                  obtain rfl := Option.some.inj h
                  exact runO_ok (hs := [.val x750, .val (.int .i64 i753), .dec false, .run 1, .val x820, .val (.bool false), .run 3, .val x750, .val (.int .i64 i753), .dec true, .run 11, .val x838, .val x840, .val (.int .i64 (n842 : Int)), .dec true, .run 3, .val x750, .val (.int .i64 i753), .dec false, .run 1, .val x846, .val x848, .val (.int .i64 (n850 : Int)), .dec false, .run 3]) (want := [2]) (by kernel_rfl) (.cons (beqF h851) <| .cons (len_ok (P := C0.P) (t := 22) (e := 9) (by kernel_rfl) h849) <| .cons h847 <| .cons h845 <| .cons (beqF h844) <| .cons h751 <| .cons h749 <| .cons (beqT h843) <| .cons (len_ok (P := C0.P) (t := 23) (e := 25) (by kernel_rfl) h841) <| .cons h839 <| .cons h837 <| .cons (beqT h826) <| .cons h751 <| .cons h749 <| .cons h821 <| .cons h819 <| .cons (beqF h755) <| .cons h751 <| .cons h749 .nil)
            · intro h
              obtain rfl := Option.some.inj h
              exact runO_ok (hs := [.val x750, .val (.int .i64 i753), .dec false, .run 1, .val x820, .val (.bool false), .run 3, .val x750, .val (.int .i64 i753), .dec true, .run 11, .val x838, .val x840, .val (.int .i64 (n842 : Int)), .dec false, .run 5]) (want := [2]) (by kernel_rfl) (.cons (beqF h843) <| .cons (len_ok (P := C0.P) (t := 23) (e := 25) (by kernel_rfl) h841) <| .cons h839 <| .cons h837 <| .cons (beqT h826) <| .cons h751 <| .cons h749 <| .cons h821 <| .cons h819 <| .cons (beqF h755) <| .cons h751 <| .cons h749 .nil)
        · obtain rfl := bF h827
          refine bindE fun x853 h852 => ?_
          refine bindE fun x855 h854 => ?_
          refine bindE fun s856 h857 => ?_
          obtain rfl := avStr_ok h857
          refine iteE (fun h858 => ?_) (fun h858 => ?_)
          · refine iteE (fun h859 => ?_) (fun h859 => ?_)
            · subst h859
              refine iteE (fun h860 => ?_) (fun h860 => ?_)
              · intro h
                obtain rfl := Option.some.inj h
                exact runO_ok (hs := [.val x750, .val (.int .i64 i753), .dec false, .run 1, .val x820, .val (.bool false), .run 3, .val x750, .val (.int .i64 i753), .dec true, .run 6, .val x853, .val (.str s856), .dec true, .run 8, .val x750, .val (.int .i64 i753), .dec true, .run 4]) (want := [2]) (by kernel_rfl) (.cons (beqT h860) <| .cons h751 <| .cons h749 <| .cons (strEqT h858) <| .cons h854 <| .cons h852 <| .cons (beqT h826) <| .cons h751 <| .cons h749 <| .cons h821 <| .cons h819 <| .cons (beqF h755) <| .cons h751 <| .cons h749 .nil)
              · refine bindE fun x862 h861 => ?_
                refine bindE fun x864 h863 => ?_
                refine bindE fun n866 h865 => ?_
                refine iteE (fun h867 => ?_) (fun h867 => ?_)
                · intro h
                  obtain rfl := Option.some.inj h
                  exact runO_ok (hs := [.val x750, .val (.int .i64 i753), .dec false, .run 1, .val x820, .val (.bool false), .run 3, .val x750, .val (.int .i64 i753), .dec true, .run 6, .val x853, .val (.str s856), .dec true, .run 8, .val x750, .val (.int .i64 i753), .dec false, .run 1, .val x862, .val x864, .val (.int .i64 (n866 : Int)), .dec true, .run 3]) (want := [2]) (by kernel_rfl) (.cons (beqT h867) <| .cons (len_ok (P := C0.P) (t := 22) (e := 9) (by kernel_rfl) h865) <| .cons h863 <| .cons h861 <| .cons (beqF h860) <| .cons h751 <| .cons h749 <| .cons (strEqT h858) <| .cons h854 <| .cons h852 <| .cons (beqT h826) <| .cons h751 <| .cons h749 <| .cons h821 <| .cons h819 <| .cons (beqF h755) <| .cons h751 <| .cons h749 .nil)
                · intro h
                  obtain rfl := Option.some.inj h
                  exact runO_ok (hs := [.val x750, .val (.int .i64 i753), .dec false, .run 1, .val x820, .val (.bool false), .run 3, .val x750, .val (.int .i64 i753), .dec true, .run 6, .val x853, .val (.str s856), .dec true, .run 8, .val x750, .val (.int .i64 i753), .dec false, .run 1, .val x862, .val x864, .val (.int .i64 (n866 : Int)), .dec false, .run 3]) (want := [2]) (by kernel_rfl) (.cons (beqF h867) <| .cons (len_ok (P := C0.P) (t := 22) (e := 9) (by kernel_rfl) h865) <| .cons h863 <| .cons h861 <| .cons (beqF h860) <| .cons h751 <| .cons h749 <| .cons (strEqT h858) <| .cons h854 <| .cons h852 <| .cons (beqT h826) <| .cons h751 <| .cons h749 <| .cons h821 <| .cons h819 <| .cons (beqF h755) <| .cons h751 <| .cons h749 .nil)
            · obtain rfl := bF h859
              refine bindE fun x869 h868 => ?_
              refine bindE fun x871 h870 => ?_
              refine bindE fun n873 h872 => ?_
              refine iteE (fun h874 => ?_) (fun h874 => ?_)
              · refine iteE (fun h875 => ?_) (fun h875 => ?_)
                · intro h
                  obtain rfl := Option.some.inj h
                  exact runO_ok (hs := [.val x750, .val (.int .i64 i753), .dec false, .run 1, .val x820, .val (.bool false), .run 3, .val x750, .val (.int .i64 i753), .dec true, .run 6, .val x853, .val (.str s856), .dec true, .run 5, .val x869, .val x871, .val (.int .i64 (n873 : Int)), .dec true, .run 3, .val x750, .val (.int .i64 i753), .dec true, .run 4]) (want := [2]) (by kernel_rfl) (.cons (beqT h875) <| .cons h751 <| .cons h749 <| .cons (beqT h874) <| .cons (len_ok (P := C0.P) (t := 23) (e := 25) (by kernel_rfl) h872) <| .cons h870 <| .cons h868 <| .cons (strEqT h858) <| .cons h854 <| .cons h852 <| .cons (beqT h826) <| .cons h751 <| .cons h749 <| .cons h821 <| .cons h819 <| .cons (beqF h755) <| .cons h751 <| .cons h749 .nil)
                · refine bindE fun x877 h876 => ?_
                  refine bindE fun x879 h878 => ?_
                  refine bindE fun n881 h880 => ?_
                  refine iteE (fun h882 => ?_) (fun h882 => ?_)
                  · intro h
                    obtain rfl := Option.some.inj h
                    exact runO_ok (hs := [.val x750, .val (.int .i64 i753), .dec false, .run 1, .val x820, .val (.bool false), .run 3, .val x750, .val (.int .i64 i753), .dec true, .run 6, .val x853, .val (.str s856), .dec true, .run 5, .val x869, .val x871, .val (.int .i64 (n873 : Int)), .dec true, .run 3, .val x750, .val (.int .i64 i753), .dec false, .run 1, .val x877, .val x879, .val (.int .i64 (n881 : Int)), .dec true, .run 3]) (want := [2]) (by kernel_rfl) (.cons (beqT h882) <| .cons (len_ok (P := C0.P) (t := 22) (e := 9) (by kernel_rfl) h880) <| .cons h878 <| .cons h876 <| .cons (beqF h875) <| .cons h751 <| .cons h749 <| .cons (beqT h874) <| .cons (len_ok (P := C0.P) (t := 23) (e := 25) (by kernel_rfl) h872) <| .cons h870 <| .cons h868 <| .cons (strEqT h858) <| .cons h854 <| .cons h852 <| .cons (beqT h826) <| .cons h751 <| .cons h749 <| .cons h821 <| .cons h819 <| .cons (beqF h755) <| .cons h751 <| .cons h749 .nil)
                  · intro h
                    obtain rfl := Option.some.inj h
                    exact runO_ok (hs := [.val x750, .val (.int .i64 i753), .dec false, .run 1, .val x820, .val (.bool false), .run 3, .val x750, .val (.int .i64 i753), .dec true, .run 6, .val x853, .val (.str s856), .dec true, .run 5, .val x869, .val x871, .val (.int .i64 (n873 : Int)), .dec true, .run 3, .val x750, .val (.int .i64 i753), .dec false, .run 1, .val x877, .val x879, .val (.int .i64 (n881 : Int)), .dec false, .run 3]) (want := [2]) (by kernel_rfl) (.cons (beqF h882) <| .cons (len_ok (P := C0.P) (t := 22) (e := 9) (by kernel_rfl) h880) <| .cons h878 <| .cons h876 <| .cons (beqF h875) <| .cons h751 <| .cons h749 <| .cons (beqT h874) <| .cons (len_ok (P := C0.P) (t := 23) (e := 25) (by kernel_rfl) h872) <| .cons h870 <| .cons h868 <| .cons (strEqT h858) <| .cons h854 <| .cons h852 <| .cons (beqT h826) <| .cons h751 <| .cons h749 <| .cons h821 <| .cons h819 <| .cons (beqF h755) <| .cons h751 <| .cons h749 .nil)
              · intro h
                obtain rfl := Option.some.inj h
                exact runO_ok (hs := [.val x750, .val (.int .i64 i753), .dec false, .run 1, .val x820, .val (.bool false), .run 3, .val x750, .val (.int .i64 i753), .dec true, .run 6, .val x853, .val (.str s856), .dec true, .run 5, .val x869, .val x871, .val (.int .i64 (n873 : Int)), .dec false, .run 5]) (want := [2]) (by kernel_rfl) (.cons (beqF h874) <| .cons (len_ok (P := C0.P) (t := 23) (e := 25) (by kernel_rfl) h872) <| .cons h870 <| .cons h868 <| .cons (strEqT h858) <| .cons h854 <| .cons h852 <| .cons (beqT h826) <| .cons h751 <| .cons h749 <| .cons h821 <| .cons h819 <| .cons (beqF h755) <| .cons h751 <| .cons h749 .nil)
          · intro h
            obtain rfl := Option.some.inj h
            exact runO_ok (hs := [.val x750, .val (.int .i64 i753), .dec false, .run 1, .val x820, .val (.bool false), .run 3, .val x750, .val (.int .i64 i753), .dec true, .run 6, .val x853, .val (.str s856), .dec false, .run 7]) (want := [2]) (by kernel_rfl) (.cons (strEqF h858) <| .cons h854 <| .cons h852 <| .cons (beqT h826) <| .cons h751 <| .cons h749 <| .cons h821 <| .cons h819 <| .cons (beqF h755) <| .cons h751 <| .cons h749 .nil)
      · refine bindE fun x884 h883 => ?_
        refine bindE fun x886 h885 => ?_
        refine bindE fun i887 h888 => ?_
        obtain rfl := avInt_ok h888
        refine iteE (fun h889 => ?_) (fun h889 => ?_)
        · refine iteE (fun h890 => ?_) (fun h890 => ?_)
          · subst h890
            refine iteE (fun h891 => ?_) (fun h891 => ?_)
            · subst h891
              refine iteE (fun h892 => ?_) (fun h892 => ?_)
              · intro h
                obtain rfl := Option.some.inj h
                exact runO_ok (hs := [.val x750, .val (.int .i64 i753), .dec false, .run 1, .val x820, .val (.bool false), .run 3, .val x750, .val (.int .i64 i753), .dec false, .run 1, .val x884, .val (.int .i64 i887), .dec true, .run 13, .val x750, .val (.int .i64 i753), .dec true, .run 4]) (want := [2]) (by kernel_rfl) (.cons (beqT h892) <| .cons h751 <| .cons h749 <| .cons (beqT h889) <| .cons h885 <| .cons h883 <| .cons (beqF h826) <| .cons h751 <| .cons h749 <| .cons h821 <| .cons h819 <| .cons (beqF h755) <| .cons h751 <| .cons h749 .nil)
              · refine bindE fun x894 h893 => ?_
                refine bindE fun x896 h895 => ?_
                refine bindE fun n898 h897 => ?_
                refine iteE (fun h899 => ?_) (fun h899 => ?_)
                · intro h
                  obtain rfl := Option.some.inj h
                  exact runO_ok (hs := [.val x750, .val (.int .i64 i753), .dec false, .run 1, .val x820, .val (.bool false), .run 3, .val x750, .val (.int .i64 i753), .dec false, .run 1, .val x884, .val (.int .i64 i887), .dec true, .run 13, .val x750, .val (.int .i64 i753), .dec false, .run 1, .val x894, .val x896, .val (.int .i64 (n898 : Int)), .dec true, .run 3]) (want := [2]) (by kernel_rfl) (.cons (beqT h899) <| .cons (len_ok (P := C0.P) (t := 22) (e := 9) (by kernel_rfl) h897) <| .cons h895 <| .cons h893 <| .cons (beqF h892) <| .cons h751 <| .cons h749 <| .cons (beqT h889) <| .cons h885 <| .cons h883 <| .cons (beqF h826) <| .cons h751 <| .cons h749 <| .cons h821 <| .cons h819 <| .cons (beqF h755) <| .cons h751 <| .cons h749 .nil)
                · intro h
                  obtain rfl := Option.some.inj h
                  exact runO_ok (hs := [.val x750, .val (.int .i64 i753), .dec false, .run 1, .val x820, .val (.bool false), .run 3, .val x750, .val (.int .i64 i753), .dec false, .run 1, .val x884, .val (.int .i64 i887), .dec true, .run 13, .val x750, .val (.int .i64 i753), .dec false, .run 1, .val x894, .val x896, .val (.int .i64 (n898 : Int)), .dec false, .run 3]) (want := [2]) (by kernel_rfl) (.cons (beqF h899) <| .cons (len_ok (P := C0.P) (t := 22) (e := 9) (by kernel_rfl) h897) <| .cons h895 <| .cons h893 <| .cons (beqF h892) <| .cons h751 <| .cons h749 <| .cons (beqT h889) <| .cons h885 <| .cons h883 <| .cons (beqF h826) <| .cons h751 <| .cons h749 <| .cons h821 <| .cons h819 <| .cons (beqF h755) <| .cons h751 <| .cons h749 .nil)
            · obtain rfl := bF h891
              refine bindE fun x901 h900 => ?_
              refine bindE fun x903 h902 => ?_
              refine bindE fun n905 h904 => ?_
              refine iteE (fun h906 => ?_) (fun h906 => ?_)
              · refine iteE (fun h907 => ?_) (fun h907 => ?_)
                · intro h
                  obtain rfl := Option.some.inj h
                  exact runO_ok (hs := [.val x750, .val (.int .i64 i753), .dec false, .run 1, .val x820, .val (.bool false), .run 3, .val x750, .val (.int .i64 i753), .dec false, .run 1, .val x884, .val (.int .i64 i887), .dec true, .run 10, .val x901, .val x903, .val (.int .i64 (n905 : Int)), .dec true, .run 3, .val x750, .val (.int .i64 i753), .dec true, .run 4]) (want := [2]) (by kernel_rfl) (.cons (beqT h907) <| .cons h751 <| .cons h749 <| .cons (beqT h906) <| .cons (len_ok (P := C0.P) (t := 23) (e := 25) (by kernel_rfl) h904) <| .cons h902 <| .cons h900 <| .cons (beqT h889) <| .cons h885 <| .cons h883 <| .cons (beqF h826) <| .cons h751 <| .cons h749 <| .cons h821 <| .cons h819 <| .cons (beqF h755) <| .cons h751 <| .cons h749 .nil)
                · refine bindE fun x909 h908 => ?_
                  refine bindE fun x911 h910 => ?_
                  refine bindE fun n913 h912 => ?_
                  refine iteE (fun h914 => ?_) (fun h914 => ?_)
                  · intro h
                    obtain rfl := Option.some.inj h
                    exact runO_ok (hs := [.val x750, .val (.int .i64 i753), .dec false, .run 1, .val x820, .val (.bool false), .run 3, .val x750, .val (.int .i64 i753), .dec false, .run 1, .val x884, .val (.int .i64 i887), .dec true, .run 10, .val x901, .val x903, .val (.int .i64 (n905 : Int)), .dec true, .run 3, .val x750, .val (.int .i64 i753), .dec false, .run 1, .val x909, .val x911, .val (.int .i64 (n913 : Int)), .dec true, .run 3]) (want := [2]) (by kernel_rfl) (.cons (beqT h914) <| .cons (len_ok (P := C0.P) (t := 22) (e := 9) (by kernel_rfl) h912) <| .cons h910 <| .cons h908 <| .cons (beqF h907) <| .cons h751 <| .cons h749 <| .cons (beqT h906) <| .cons (len_ok (P := C0.P) (t := 23) (e := 25) (by kernel_rfl) h904) <| .cons h902 <| .cons h900 <| .cons (beqT h889) <| .cons h885 <| .cons h883 <| .cons (beqF h826) <| .cons h751 <| .cons h749 <| .cons h821 <| .cons h819 <| .cons (beqF h755) <| .cons h751 <| .cons h749 .nil)
                  · intro h
                    obtain rfl := Option.some.inj h
                    exact runO_ok (hs := [.val x750, .val (.int .i64 i753), .dec false, .run 1, .val x820, .val (.bool false), .run 3, .val x750, .val (.int .i64 i753), .dec false, .run 1, .val x884, .val (.int .i64 i887), .dec true, .run 10, .val x901, .val x903, .val (.int .i64 (n905 : Int)), .dec true, .run 3, .val x750, .val (.int .i64 i753), .dec false, .run 1, .val x909, .val x911, .val (.int .i64 (n913 : Int)), .dec false, .run 3]) (want := [2]) (by kernel_rfl) (.cons (beqF h914) <| .cons (len_ok (P := C0.P) (t := 22) (e := 9) (by kernel_rfl) h912) <| .cons h910 <| .cons h908 <| .cons (beqF h907) <| .cons h751 <| .cons h749 <| .cons (beqT h906) <| .cons (len_ok (P := C0.P) (t := 23) (e := 25) (by kernel_rfl) h904) <| .cons h902 <| .cons h900 <| .cons (beqT h889) <| .cons h885 <| .cons h883 <| .cons (beqF h826) <| .cons h751 <| .cons h749 <| .cons h821 <| .cons h819 <| .cons (beqF h755) <| .cons h751 <| .cons h749 .nil)
              · intro h
                obtain rfl := Option.some.inj h
                exact runO_ok (hs := [.val x750, .val (.int .i64 i753), .dec false, .run 1, .val x820, .val (.bool false), .run 3, .val x750, .val (.int .i64 i753), .dec false, .run 1, .val x884, .val (.int .i64 i887), .dec true, .run 10, .val x901, .val x903, .val (.int .i64 (n905 : Int)), .dec false, .run 5]) (want := [2]) (by kernel_rfl) (.cons (beqF h906) <| .cons (len_ok (P := C0.P) (t := 23) (e := 25) (by kernel_rfl) h904) <| .cons h902 <| .cons h900 <| .cons (beqT h889) <| .cons h885 <| .cons h883 <| .cons (beqF h826) <| .cons h751 <| .cons h749 <| .cons h821 <| .cons h819 <| .cons (beqF h755) <| .cons h751 <| .cons h749 .nil)
          · obtain rfl := bF h890
            refine bindE fun x916 h915 => ?_
            refine bindE fun x918 h917 => ?_
            refine bindE fun s919 h920 => ?_
            obtain rfl := avStr_ok h920
            refine iteE (fun h921 => ?_) (fun h921 => ?_)
            · refine iteE (fun h922 => ?_) (fun h922 => ?_)
              · subst h922
                refine iteE (fun h923 => ?_) (fun h923 => ?_)
                · intro h
                  obtain rfl := Option.some.inj h
                  exact runO_ok (hs := [.val x750, .val (.int .i64 i753), .dec false, .run 1, .val x820, .val (.bool false), .run 3, .val x750, .val (.int .i64 i753), .dec false, .run 1, .val x884, .val (.int .i64 i887), .dec true, .run 5, .val x916, .val (.str s919), .dec true, .run 8, .val x750, .val (.int .i64 i753), .dec true, .run 4]) (want := [2]) (by kernel_rfl) (.cons (beqT h923) <| .cons h751 <| .cons h749 <| .cons (strEqT h921) <| .cons h917 <| .cons h915 <| .cons (beqT h889) <| .cons h885 <| .cons h883 <| .cons (beqF h826) <| .cons h751 <| .cons h749 <| .cons h821 <| .cons h819 <| .cons (beqF h755) <| .cons h751 <| .cons h749 .nil)
                · refine bindE fun x925 h924 => ?_
                  refine bindE fun x927 h926 => ?_
                  refine bindE fun n929 h928 => ?_
                  refine iteE (fun h930 => ?_) (fun h930 => ?_)
                  · intro h
                    obtain rfl := Option.some.inj h
                    exact runO_ok (hs := [.val x750, .val (.int .i64 i753), .dec false, .run 1, .val x820, .val (.bool false), .run 3, .val x750, .val (.int .i64 i753), .dec false, .run 1, .val x884, .val (.int .i64 i887), .dec true, .run 5, .val x916, .val (.str s919), .dec true, .run 8, .val x750, .val (.int .i64 i753), .dec false, .run 1, .val x925, .val x927, .val (.int .i64 (n929 : Int)), .dec true, .run 3]) (want := [2]) (by kernel_rfl) (.cons (beqT h930) <| .cons (len_ok (P := C0.P) (t := 22) (e := 9) (by kernel_rfl) h928) <| .cons h926 <| .cons h924 <| .cons (beqF h923) <| .cons h751 <| .cons h749 <| .cons (strEqT h921) <| .cons h917 <| .cons h915 <| .cons (beqT h889) <| .cons h885 <| .cons h883 <| .cons (beqF h826) <| .cons h751 <| .cons h749 <| .cons h821 <| .cons h819 <| .cons (beqF h755) <| .cons h751 <| .cons h749 .nil)
                  · intro h
                    obtain rfl := Option.some.inj h
                    exact runO_ok (hs := [.val x750, .val (.int .i64 i753), .dec false, .run 1, .val x820, .val (.bool false), .run 3, .val x750, .val (.int .i64 i753), .dec false, .run 1, .val x884, .val (.int .i64 i887), .dec true, .run 5, .val x916, .val (.str s919), .dec true, .run 8, .val x750, .val (.int .i64 i753), .dec false, .run 1, .val x925, .val x927, .val (.int .i64 (n929 : Int)), .dec false, .run 3]) (want := [2]) (by kernel_rfl) (.cons (beqF h930) <| .cons (len_ok (P := C0.P) (t := 22) (e := 9) (by kernel_rfl) h928) <| .cons h926 <| .cons h924 <| .cons (beqF h923) <| .cons h751 <| .cons h749 <| .cons (strEqT h921) <| .cons h917 <| .cons h915 <| .cons (beqT h889) <| .cons h885 <| .cons h883 <| .cons (beqF h826) <| .cons h751 <| .cons h749 <| .cons h821 <| .cons h819 <| .cons (beqF h755) <| .cons h751 <| .cons h749 .nil)
              · obtain rfl := bF h922
                refine bindE fun x932 h931 => ?_
                refine bindE fun x934 h933 => ?_
                refine bindE fun n936 h935 => ?_
                refine iteE (fun h937 => ?_) (fun h937 => ?_)
                · refine iteE (fun h938 => ?_) (fun h938 => ?_)
                  · intro h
                    obtain rfl := Option.some.inj h
                    exact runO_ok (hs := [.val x750, .val (.int .i64 i753), .dec false, .run 1, .val x820, .val (.bool false), .run 3, .val x750, .val (.int .i64 i753), .dec false, .run 1, .val x884, .val (.int .i64 i887), .dec true, .run 5, .val x916, .val (.str s919), .dec true, .run 5, .val x932, .val x934, .val (.int .i64 (n936 : Int)), .dec true, .run 3, .val x750, .val (.int .i64 i753), .dec true, .run 4]) (want := [2]) (by kernel_rfl) (.cons (beqT h938) <| .cons h751 <| .cons h749 <| .cons (beqT h937) <| .cons (len_ok (P := C0.P) (t := 23) (e := 25) (by kernel_rfl) h935) <| .cons h933 <| .cons h931 <| .cons (strEqT h921) <| .cons h917 <| .cons h915 <| .cons (beqT h889) <| .cons h885 <| .cons h883 <| .cons (beqF h826) <| .cons h751 <| .cons h749 <| .cons h821 <| .cons h819 <| .cons (beqF h755) <| .cons h751 <| .cons h749 .nil)
                  · refine bindE fun x940 h939 => ?_
                    refine bindE fun x942 h941 => ?_
                    refine bindE fun n944 h943 => ?_
                    refine iteE (fun h945 => ?_) (fun h945 => ?_)
                    · intro h
                      obtain rfl := Option.some.inj h
                      exact runO_ok (hs := [.val x750, .val (.int .i64 i753), .dec false, .run 1, .val x820, .val (.bool false), .run 3, .val x750, .val (.int .i64 i753), .dec false, .run 1, .val x884, .val (.int .i64 i887), .dec true, .run 5, .val x916, .val (.str s919), .dec true, .run 5, .val x932, .val x934, .val (.int .i64 (n936 : Int)), .dec true, .run 3, .val x750, .val (.int .i64 i753), .dec false, .run 1, .val x940, .val x942, .val (.int .i64 (n944 : Int)), .dec true, .run 3]) (want := [2]) (by kernel_rfl) (.cons (beqT h945) <| .cons (len_ok (P := C0.P) (t := 22) (e := 9) (by kernel_rfl) h943) <| .cons h941 <| .cons h939 <| .cons (beqF h938) <| .cons h751 <| .cons h749 <| .cons (beqT h937) <| .cons (len_ok (P := C0.P) (t := 23) (e := 25) (by kernel_rfl) h935) <| .cons h933 <| .cons h931 <| .cons (strEqT h921) <| .cons h917 <| .cons h915 <| .cons (beqT h889) <| .cons h885 <| .cons h883 <| .cons (beqF h826) <| .cons h751 <| .cons h749 <| .cons h821 <| .cons h819 <| .cons (beqF h755) <| .cons h751 <| .cons h749 .nil)
                    · intro h
                      obtain rfl := Option.some.inj h
                      exact runO_ok (hs := [.val x750, .val (.int .i64 i753), .dec false, .run 1, .val x820, .val (.bool false), .run 3, .val x750, .val (.int .i64 i753), .dec false, .run 1, .val x884, .val (.int .i64 i887), .dec true, .run 5, .val x916, .val (.str s919), .dec true, .run 5, .val x932, .val x934, .val (.int .i64 (n936 : Int)), .dec true, .run 3, .val x750, .val (.int .i64 i753), .dec false, .run 1, .val x940, .val x942, .val (.int .i64 (n944 : Int)), .dec false, .run 3]) (want := [2]) (by kernel_rfl) (.cons (beqF h945) <| .cons (len_ok (P := C0.P) (t := 22) (e := 9) (by kernel_rfl) h943) <| .cons h941 <| .cons h939 <| .cons (beqF h938) <| .cons h751 <| .cons h749 <| .cons (beqT h937) <| .cons (len_ok (P := C0.P) (t := 23) (e := 25) (by kernel_rfl) h935) <| .cons h933 <| .cons h931 <| .cons (strEqT h921) <| .cons h917 <| .cons h915 <| .cons (beqT h889) <| .cons h885 <| .cons h883 <| .cons (beqF h826) <| .cons h751 <| .cons h749 <| .cons h821 <| .cons h819 <| .cons (beqF h755) <| .cons h751 <| .cons h749 .nil)
                · intro h
                  obtain rfl := Option.some.inj h
                  exact runO_ok (hs := [.val x750, .val (.int .i64 i753), .dec false, .run 1, .val x820, .val (.bool false), .run 3, .val x750, .val (.int .i64 i753), .dec false, .run 1, .val x884, .val (.int .i64 i887), .dec true, .run 5, .val x916, .val (.str s919), .dec true, .run 5, .val x932, .val x934, .val (.int .i64 (n936 : Int)), .dec false, .run 5]) (want := [2]) (by kernel_rfl) (.cons (beqF h937) <| .cons (len_ok (P := C0.P) (t := 23) (e := 25) (by kernel_rfl) h935) <| .cons h933 <| .cons h931 <| .cons (strEqT h921) <| .cons h917 <| .cons h915 <| .cons (beqT h889) <| .cons h885 <| .cons h883 <| .cons (beqF h826) <| .cons h751 <| .cons h749 <| .cons h821 <| .cons h819 <| .cons (beqF h755) <| .cons h751 <| .cons h749 .nil)
            · intro h
              obtain rfl := Option.some.inj h
              exact runO_ok (hs := [.val x750, .val (.int .i64 i753), .dec false, .run 1, .val x820, .val (.bool false), .run 3, .val x750, .val (.int .i64 i753), .dec false, .run 1, .val x884, .val (.int .i64 i887), .dec true, .run 5, .val x916, .val (.str s919), .dec false, .run 7]) (want := [2]) (by kernel_rfl) (.cons (strEqF h921) <| .cons h917 <| .cons h915 <| .cons (beqT h889) <| .cons h885 <| .cons h883 <| .cons (beqF h826) <| .cons h751 <| .cons h749 <| .cons h821 <| .cons h819 <| .cons (beqF h755) <| .cons h751 <| .cons h749 .nil)
        · intro h
          obtain rfl := Option.some.inj h
          exact runO_ok (hs := [.val x750, .val (.int .i64 i753), .dec false, .run 1, .val x820, .val (.bool false), .run 3, .val x750, .val (.int .i64 i753), .dec false, .run 1, .val x884, .val (.int .i64 i887), .dec false, .run 9]) (want := [2]) (by kernel_rfl) (.cons (beqF h889) <| .cons h885 <| .cons h883 <| .cons (beqF h826) <| .cons h751 <| .cons h749 <| .cons h821 <| .cons h819 <| .cons (beqF h755) <| .cons h751 <| .cons h749 .nil)

/- parchment/value.bare -/
def value_bare_n : Nat := 82
noncomputable def value_bare (R : Nat) (i488 : Int) (b489 : Bool) (i490 : Int) (s491 : List UInt8) (x492 : AV) (x493 : AV) (st494 : St) : Option (Bool × St) :=
  Option.bind (boxOp 25 (.agg [(.int .i64 i488), (.bool b489), (.int .i64 i490), (.str s491), x492, x493]) st494) fun (x497, st496) =>
  Option.bind (value_bare_j10 R x497 st496) fun (b519, st520) =>
  Option.bind (value_bare_j110 R x497 st520) fun (b542, st543) =>
  Option.bind (value_bare_j1110 R x497 b519 b542 st543) fun (b947, st948) =>
  some (b947, st948)
theorem value_bare_ok (R n : Nat) (i488 : Int) (b489 : Bool) (i490 : Int) (s491 : List UInt8) (x492 : AV) (x493 : AV) (st494 : St) (r : Bool × St) (h : value_bare R i488 b489 i490 s491 x492 x493 st494 = some r) :
    CallsTo (callK C0 ext0 R (n + 1)) false 82 [(.agg [(.int .i64 i488), (.bool b489), (.int .i64 i490), (.str s491), x492, x493])] st494 (.bool r.1) r.2 := by
  revert h
  unfold value_bare
  refine bindE fun o h495 => ?_
  obtain ⟨x497, st496⟩ := o
  refine bindE fun o h518 => ?_
  obtain ⟨b519, st520⟩ := o
  refine bindE fun o h541 => ?_
  obtain ⟨b542, st543⟩ := o
  refine bindE fun o h946 => ?_
  obtain ⟨b947, st948⟩ := o
  intro h
  obtain rfl := Option.some.inj h
  exact callO_ok (hs := [.eff x497 st496, .run 1, .absG [1] .normal [(3, (.bool b519))] st520, .absG [1] .normal [(4, (.bool b542))] st543, .absG [1, 3, 4] .normal [(2, (.bool b947))] st948]) (by kernel_rfl) (.cons (value_bare_j1110_ok R n x497 b519 b542 st543 _ h946) <| .cons (value_bare_j110_ok R n x497 st520 _ h541) <| .cons (value_bare_j10_ok R n x497 st496 _ h518) <| .cons (box_ok h495) .nil) (by kernel_rfl) (by kernel_rfl)

noncomputable def value_names_j10100110010 (R : Nat) (x1002 : AV) (i1003 : Int) (s1004 : List UInt8) (st1005 : St) : Option (Bool × St) :=
  Option.bind (value_Name R s1004) fun b1006 =>
  if b1006 = true then
   if (i1003 > 0) then
    Option.bind (shift x1002 5) fun x1011 =>
    Option.bind (loadAt C0.P st1005 22 x1011) fun x1013 =>
    Option.bind (indexAddrOp C0.P 22 x1013 (.int .i64 (IntKind.wrap .i64 (i1003 - 1)))) fun x1015 =>
    Option.bind (loadAt C0.P st1005 9 x1015) fun x1017 =>
    Option.bind (avStr x1017) fun s1018 =>
    if (!strLt s1018 s1004) = true then
     some (true, st1005)
    else
     some (false, st1005)
   else
    some (false, st1005)
  else
   some (true, st1005)
theorem value_names_j10100110010_ok (R n : Nat) (x1002 : AV) (i1003 : Int) (s1004 : List UInt8) (st1005 : St) (r : Bool × St) (h : value_names_j10100110010 R x1002 i1003 s1004 st1005 = some r) :
    Leads 43 (execK C0 (callK C0 ext0 R (n + 1)) 83 R none (codeAt C0.P 83 [1, 0, 1, 0, 0, 1, 1, 0, 0, 1, 0])) (modsOf (codeAt C0.P 83 [1, 0, 1, 0, 0, 1, 1, 0, 0, 1, 0])) [(1, x1002), (3, (.int .i64 i1003)), (4, (.str s1004))] st1005 .normal [(29, .bool r.1)] r.2 := by
  revert h
  unfold value_names_j10100110010
  refine bindE fun b1006 h1007 => ?_
  refine iteE (fun h1008 => ?_) (fun h1008 => ?_)
  · subst h1008
    refine iteE (fun h1009 => ?_) (fun h1009 => ?_)
    · refine bindE fun x1011 h1010 => ?_
      refine bindE fun x1013 h1012 => ?_
      refine bindE fun x1015 h1014 => ?_
      refine bindE fun x1017 h1016 => ?_
      refine bindE fun s1018 h1019 => ?_
      obtain rfl := avStr_ok h1019
      refine iteE (fun h1020 => ?_) (fun h1020 => ?_)
      · intro h
        obtain rfl := Option.some.inj h
        exact runO_ok (hs := [.run 1, .call (.bool true) st1005, .run 3, .dec true, .run 1, .val x1011, .val x1013, .run 2, .val x1015, .val (.str s1018), .run 1, .dec true, .run 2]) (want := [29]) (by kernel_rfl) (.cons h1020 <| .cons h1016 <| .cons h1014 <| .cons h1012 <| .cons h1010 <| .cons (decide_eq_true h1009) <| .cons (value_Name_ok R n s1004 st1005 _ h1007) .nil)
      · intro h
        obtain rfl := Option.some.inj h
        exact runO_ok (hs := [.run 1, .call (.bool true) st1005, .run 3, .dec true, .run 1, .val x1011, .val x1013, .run 2, .val x1015, .val (.str s1018), .run 1, .dec false, .run 2]) (want := [29]) (by kernel_rfl) (.cons (bF h1020) <| .cons h1016 <| .cons h1014 <| .cons h1012 <| .cons h1010 <| .cons (decide_eq_true h1009) <| .cons (value_Name_ok R n s1004 st1005 _ h1007) .nil)
    · intro h
      obtain rfl := Option.some.inj h
      exact runO_ok (hs := [.run 1, .call (.bool true) st1005, .run 3, .dec false, .run 3]) (want := [29]) (by kernel_rfl) (.cons (decide_eq_false h1009) <| .cons (value_Name_ok R n s1004 st1005 _ h1007) .nil)
  · obtain rfl := bF h1008
    intro h
    obtain rfl := Option.some.inj h
    exact runO_ok (hs := [.run 1, .call (.bool false) st1005, .run 3]) (want := [29]) (by kernel_rfl) (.cons (value_Name_ok R n s1004 st1005 _ h1007) .nil)

noncomputable def value_names_l1010 (R : Nat) (x1025 : AV) (x1026 : AV) (i1027 : Int) : Nat → Int → St → Option ((Bool × St) ⊕ (St))
  | 0, _, _ => none
  | r + 1, i1028, st1029 =>
    if (i1028 < i1027) then
     Option.bind (indexAddrOp C0.P 22 x1026 (.int .i64 i1028)) fun x1032 =>
     Option.bind (loadAt C0.P st1029 9 x1032) fun x1034 =>
     Option.bind (avStr x1034) fun s1035 =>
     Option.bind (value_names_j10100110010 R x1025 i1028 s1035 st1029) fun (b1038, st1039) =>
     if b1038 = true then
      some (.inl (false, st1039))
     else
      value_names_l1010 R x1025 x1026 i1027 r (IntKind.wrap .i64 (i1028 + 1)) st1039
    else
     some (.inr st1029)
noncomputable def value_names_l1010_x (o : (Bool × St) ⊕ (St)) : AExit × List (Nat × AV) × St := match o with
  | .inl (a0, a1) => (.ret, [(2, .bool a0)], a1)
  | .inr a0 => ((.exit 0), [], a0)
theorem value_names_l1010_ok (R n : Nat) (x1025 : AV) (x1026 : AV) (i1027 : Int) : ∀ (r : Nat) (i1028 : Int) (st1029 : St) (o : (Bool × St) ⊕ (St)), value_names_l1010 R x1025 x1026 i1027 r i1028 st1029 = some o →
    Leads 43 (loopK (fun fr k => execK C0 (callK C0 ext0 R (n + 1)) 83 R none (codeAt C0.P 83 [1, 0, 1, 0, 0]) fr k) r) (modsOf (codeAt C0.P 83 [1, 0, 1, 0, 0])) [(1, x1025), (6, x1026), (7, (.int .i64 i1027)), (8, (.int .i64 i1028))] st1029 (value_names_l1010_x o).1 (value_names_l1010_x o).2.1 (value_names_l1010_x o).2.2 := by
  intro r
  induction r with
  | zero => intro i1028 st1029 o h; exact nomatch h
  | succ r ih =>
    intro i1028 st1029 o
    unfold value_names_l1010
    refine iteE (fun h1030 => ?_) (fun h1030 => ?_)
    · refine bindE fun x1032 h1031 => ?_
      refine bindE fun x1034 h1033 => ?_
      refine bindE fun s1035 h1036 => ?_
      obtain rfl := avStr_ok h1036
      refine bindE fun o h1037 => ?_
      obtain ⟨b1038, st1039⟩ := o
      refine iteE (fun h1040 => ?_) (fun h1040 => ?_)
      · subst h1040
        intro h
        obtain rfl := Option.some.inj h
        exact loop_done (runO_ok (hs := [.dec true, .into, .into, .run 1, .val x1032, .val (.str s1035), .run 2, .absG [1, 3, 4] .normal [(29, (.bool true))] st1039, .into, .run 1]) (want := [2]) (by kernel_rfl) (.cons (value_names_j10100110010_ok R n x1025 i1028 s1035 st1029 _ h1037) <| .cons h1033 <| .cons h1031 <| .cons (decide_eq_true h1030) .nil)) (by kernel_rfl)
      · obtain rfl := bF h1040
        intro h
        exact loop_more (runO_ok (hs := [.dec true, .into, .into, .run 1, .val x1032, .val (.str s1035), .run 2, .absG [1, 3, 4] .normal [(29, (.bool false))] st1039, .into, .run 2]) (want := [1, 6, 7, 8]) (by kernel_rfl) (.cons (value_names_j10100110010_ok R n x1025 i1028 s1035 st1029 _ h1037) <| .cons h1033 <| .cons h1031 <| .cons (decide_eq_true h1030) .nil)) (ih (IntKind.wrap .i64 (i1028 + 1)) st1039 _ h)
    · intro h
      obtain rfl := Option.some.inj h
      exact loop_done (runO_ok (hs := [.dec false, .into]) (want := []) (by kernel_rfl) (.cons (decide_eq_false h1030) .nil)) (by kernel_rfl)

noncomputable def value_names_j110 (R : Nat) (x1067 : AV) (st1068 : St) : Option (Bool × St) :=
  Option.bind (shift x1067 0) fun x1070 =>
  Option.bind (loadAt C0.P st1068 3 x1070) fun x1072 =>
  Option.bind (avInt .i64 x1072) fun i1073 =>
  if (i1073 = 6) then
   Option.bind (shift x1067 5) fun x1077 =>
   Option.bind (loadAt C0.P st1068 22 x1077) fun x1079 =>
   Option.bind (lenOf x1079) fun n1081 =>
   Option.bind (shift x1067 4) fun x1083 =>
   Option.bind (loadAt C0.P st1068 23 x1083) fun x1085 =>
   Option.bind (lenOf x1085) fun n1087 =>
   if ((n1081 : Int) = (n1087 : Int)) then
    some (true, st1068)
   else
    some (false, st1068)
  else
   some (true, st1068)
theorem value_names_j110_ok (R n : Nat) (x1067 : AV) (st1068 : St) (r : Bool × St) (h : value_names_j110 R x1067 st1068 = some r) :
    Leads 43 (execK C0 (callK C0 ext0 R (n + 1)) 83 R none (codeAt C0.P 83 [1, 1, 0])) (modsOf (codeAt C0.P 83 [1, 1, 0])) [(1, x1067)] st1068 .normal [(2, .bool r.1)] r.2 := by
  revert h
  unfold value_names_j110
  refine bindE fun x1070 h1069 => ?_
  refine bindE fun x1072 h1071 => ?_
  refine bindE fun i1073 h1074 => ?_
  obtain rfl := avInt_ok h1074
  refine iteE (fun h1075 => ?_) (fun h1075 => ?_)
  · refine bindE fun x1077 h1076 => ?_
    refine bindE fun x1079 h1078 => ?_
    refine bindE fun n1081 h1080 => ?_
    refine bindE fun x1083 h1082 => ?_
    refine bindE fun x1085 h1084 => ?_
    refine bindE fun n1087 h1086 => ?_
    refine iteE (fun h1088 => ?_) (fun h1088 => ?_)
    · intro h
      obtain rfl := Option.some.inj h
      exact runO_ok (hs := [.val x1070, .val (.int .i64 i1073), .dec false, .run 1, .val x1077, .val x1079, .val (.int .i64 (n1081 : Int)), .val x1083, .val x1085, .val (.int .i64 (n1087 : Int)), .dec true, .run 2]) (want := [2]) (by kernel_rfl) (.cons (beqT h1088) <| .cons (len_ok (P := C0.P) (t := 23) (e := 25) (by kernel_rfl) h1086) <| .cons h1084 <| .cons h1082 <| .cons (len_ok (P := C0.P) (t := 22) (e := 9) (by kernel_rfl) h1080) <| .cons h1078 <| .cons h1076 <| .cons (bneF h1075) <| .cons h1071 <| .cons h1069 .nil)
    · intro h
      obtain rfl := Option.some.inj h
      exact runO_ok (hs := [.val x1070, .val (.int .i64 i1073), .dec false, .run 1, .val x1077, .val x1079, .val (.int .i64 (n1081 : Int)), .val x1083, .val x1085, .val (.int .i64 (n1087 : Int)), .dec false, .run 2]) (want := [2]) (by kernel_rfl) (.cons (beqF h1088) <| .cons (len_ok (P := C0.P) (t := 23) (e := 25) (by kernel_rfl) h1086) <| .cons h1084 <| .cons h1082 <| .cons (len_ok (P := C0.P) (t := 22) (e := 9) (by kernel_rfl) h1080) <| .cons h1078 <| .cons h1076 <| .cons (bneF h1075) <| .cons h1071 <| .cons h1069 .nil)
  · intro h
    obtain rfl := Option.some.inj h
    exact runO_ok (hs := [.val x1070, .val (.int .i64 i1073), .dec true, .run 3]) (want := [2]) (by kernel_rfl) (.cons (bneT h1075) <| .cons h1071 <| .cons h1069 .nil)

/- parchment/value.names -/
def value_names_n : Nat := 83
noncomputable def value_names (R : Nat) (i955 : Int) (b956 : Bool) (i957 : Int) (s958 : List UInt8) (x959 : AV) (x960 : AV) (st961 : St) : Option (Bool × St) :=
  Option.bind (boxOp 25 (.agg [(.int .i64 i955), (.bool b956), (.int .i64 i957), (.str s958), x959, x960]) st961) fun (x964, st963) =>
  Option.bind (shift x964 5) fun x966 =>
  Option.bind (loadAt C0.P st963 22 x966) fun x968 =>
  Option.bind (lenOf x968) fun n970 =>
  Option.bind (value_names_l1010 R x964 x968 (n970 : Int) R 0 st963) fun o => match o with
  | .inl (b1042, st1043) =>
   some (b1042, st1043)
  | .inr st1044 =>
   Option.bind (value_names_j110 R x964 st1044) fun (b1090, st1091) =>
   some (b1090, st1091)
theorem value_names_ok (R n : Nat) (i955 : Int) (b956 : Bool) (i957 : Int) (s958 : List UInt8) (x959 : AV) (x960 : AV) (st961 : St) (r : Bool × St) (h : value_names R i955 b956 i957 s958 x959 x960 st961 = some r) :
    CallsTo (callK C0 ext0 R (n + 2)) false 83 [(.agg [(.int .i64 i955), (.bool b956), (.int .i64 i957), (.str s958), x959, x960])] st961 (.bool r.1) r.2 := by
  revert h
  unfold value_names
  refine bindE fun o h962 => ?_
  obtain ⟨x964, st963⟩ := o
  refine bindE fun x966 h965 => ?_
  refine bindE fun x968 h967 => ?_
  refine bindE fun n970 h969 => ?_
  refine bindE fun o h1041 => ?_
  rcases o with ⟨b1042, st1043⟩ | st1044
  · intro h
    obtain rfl := Option.some.inj h
    exact callO_ok (hs := [.eff x964 st963, .run 1, .val x966, .val x968, .val (.int .i64 (n970 : Int)), .run 1, .into, .abs [1, 6, 7, 8] .ret [(2, (.bool b1042))] st1043]) (by kernel_rfl) (.cons (loop_leads (value_names_l1010_ok R n x964 x968 (n970 : Int) R 0 st963 _ h1041)) <| .cons (len_ok (P := C0.P) (t := 22) (e := 9) (by kernel_rfl) h969) <| .cons h967 <| .cons h965 <| .cons (box_ok h962) .nil) (by kernel_rfl) (by kernel_rfl)
  · refine bindE fun o h1089 => ?_
    obtain ⟨b1090, st1091⟩ := o
    intro h
    obtain rfl := Option.some.inj h
    exact callO_ok (hs := [.eff x964 st963, .run 1, .val x966, .val x968, .val (.int .i64 (n970 : Int)), .run 1, .into, .abs [1, 6, 7, 8] (.exit 0) [] st1044, .absG [1] .normal [(2, (.bool b1090))] st1091]) (by kernel_rfl) (.cons (value_names_j110_ok R n x964 st1044 _ h1089) <| .cons (loop_leads (value_names_l1010_ok R n x964 x968 (n970 : Int) R 0 st963 _ h1041)) <| .cons (len_ok (P := C0.P) (t := 22) (e := 9) (by kernel_rfl) h969) <| .cons h967 <| .cons h965 <| .cons (box_ok h962) .nil) (by kernel_rfl) (by kernel_rfl)

/-- A group of functions that call one another: how many rounds, what they come to. -/
structure Rc41 where
  n : Nat
  f41 : Int → Bool → Int → List UInt8 → AV → AV → Int → St → Option (Int × St)
def Rc41.ok (R : Rc41) (n : Nat) : Prop := (∀ m, n ≤ m → ∀ (a0 : Int) (a1 : Bool) (a2 : Int) (a3 : List UInt8) (a4 : AV) (a5 : AV) (a6 : Int) (st : St) (r : Int × St), R.f41 a0 a1 a2 a3 a4 a5 a6 st = some r → CallsTo (callK C0 ext0 R.n m) false 41 [(.agg [.int .i64 a0, .bool a1, .int .i64 a2, .str a3, a4, a5]), (.int .i64 a6)] st (.int .i64 r.1) r.2)
theorem Rc41.ok.h41 {R : Rc41} {n : Nat} (h : R.ok n) : (∀ m, n ≤ m → ∀ (a0 : Int) (a1 : Bool) (a2 : Int) (a3 : List UInt8) (a4 : AV) (a5 : AV) (a6 : Int) (st : St) (r : Int × St), R.f41 a0 a1 a2 a3 a4 a5 a6 st = some r → CallsTo (callK C0 ext0 R.n m) false 41 [(.agg [.int .i64 a0, .bool a1, .int .i64 a2, .str a3, a4, a5]), (.int .i64 a6)] st (.int .i64 r.1) r.2) := h
theorem Rc41.ok.mono {R : Rc41} {n m : Nat} (h : R.ok n) (hn : n ≤ m) : R.ok m := fun k hk => h.h41 k (Nat.le_trans hn hk)

noncomputable def value_check_j100110 (R : Rc41) (x1134 : AV) (st1135 : St) : Option (Bool × St) :=
  Option.bind (shift x1134 0) fun x1137 =>
  Option.bind (loadAt C0.P st1135 3 x1137) fun x1139 =>
  Option.bind (avInt .i64 x1139) fun i1140 =>
  if (i1140 < 0) then
   some (true, st1135)
  else
   if (i1140 > 6) then
    some (true, st1135)
   else
    Option.bind (loadAt C0.P st1135 25 x1134) fun x1145 =>
    Option.bind (de_Ai64_b_i64_s_a_aZ x1145) fun (i1146, b1147, i1148, s1149, x1150, x1151) =>
    Option.bind (value_bare R.n i1146 b1147 i1148 s1149 x1150 x1151 st1135) fun (b1153, st1155) =>
    if b1153 = true then
     some (false, st1155)
    else
     some (true, st1155)
theorem value_check_j100110_ok (R : Rc41) (n : Nat) (hR : R.ok n) (x1134 : AV) (st1135 : St) (r : Bool × St) (h : value_check_j100110 R x1134 st1135 = some r) :
    Leads 49 (execK C0 (callK C0 ext0 R.n (n + 2)) 41 R.n none (codeAt C0.P 41 [1, 0, 0, 1, 1, 0])) (modsOf (codeAt C0.P 41 [1, 0, 0, 1, 1, 0])) [(2, x1134)] st1135 .normal [(11, .bool r.1)] r.2 := by
  revert h
  unfold value_check_j100110
  refine bindE fun x1137 h1136 => ?_
  refine bindE fun x1139 h1138 => ?_
  refine bindE fun i1140 h1141 => ?_
  obtain rfl := avInt_ok h1141
  refine iteE (fun h1142 => ?_) (fun h1142 => ?_)
  · intro h
    obtain rfl := Option.some.inj h
    exact runO_ok (hs := [.val x1137, .val (.int .i64 i1140), .dec true, .run 5]) (want := [11]) (by kernel_rfl) (.cons (decide_eq_true h1142) <| .cons h1138 <| .cons h1136 .nil)
  · refine iteE (fun h1143 => ?_) (fun h1143 => ?_)
    · intro h
      obtain rfl := Option.some.inj h
      exact runO_ok (hs := [.val x1137, .val (.int .i64 i1140), .dec false, .run 1, .val x1137, .val (.int .i64 i1140), .dec true, .run 4]) (want := [11]) (by kernel_rfl) (.cons (decide_eq_true h1143) <| .cons h1138 <| .cons h1136 <| .cons (decide_eq_false h1142) <| .cons h1138 <| .cons h1136 .nil)
    · refine bindE fun x1145 h1144 => ?_
      refine bindE fun o h1152 => ?_
      obtain ⟨i1146, b1147, i1148, s1149, x1150, x1151⟩ := o
      obtain rfl := de_Ai64_b_i64_s_a_aZ_ok h1152
      refine bindE fun o h1154 => ?_
      obtain ⟨b1153, st1155⟩ := o
      refine iteE (fun h1156 => ?_) (fun h1156 => ?_)
      · subst h1156
        intro h
        obtain rfl := Option.some.inj h
        exact runO_ok (hs := [.val x1137, .val (.int .i64 i1140), .dec false, .run 1, .val x1137, .val (.int .i64 i1140), .dec false, .run 2, .val (.agg [(.int .i64 i1146), (.bool b1147), (.int .i64 i1148), (.str s1149), x1150, x1151]), .call (.bool true) st1155, .run 3]) (want := [11]) (by kernel_rfl) (.cons (value_bare_ok R.n (n + 1) i1146 b1147 i1148 s1149 x1150 x1151 st1135 _ h1154) <| .cons h1144 <| .cons (decide_eq_false h1143) <| .cons h1138 <| .cons h1136 <| .cons (decide_eq_false h1142) <| .cons h1138 <| .cons h1136 .nil)
      · obtain rfl := bF h1156
        intro h
        obtain rfl := Option.some.inj h
        exact runO_ok (hs := [.val x1137, .val (.int .i64 i1140), .dec false, .run 1, .val x1137, .val (.int .i64 i1140), .dec false, .run 2, .val (.agg [(.int .i64 i1146), (.bool b1147), (.int .i64 i1148), (.str s1149), x1150, x1151]), .call (.bool false) st1155, .run 3]) (want := [11]) (by kernel_rfl) (.cons (value_bare_ok R.n (n + 1) i1146 b1147 i1148 s1149 x1150 x1151 st1135 _ h1154) <| .cons h1144 <| .cons (decide_eq_false h1143) <| .cons h1138 <| .cons h1136 <| .cons (decide_eq_false h1142) <| .cons h1138 <| .cons h1136 .nil)

noncomputable def value_check_l11010 (R : Rc41) (i1217 : Int) (x1218 : AV) (i1219 : Int) : Nat → Int → St → Option ((Int × St) ⊕ (St))
  | 0, _, _ => none
  | r + 1, i1220, st1221 =>
    if (i1220 < i1219) then
     Option.bind (indexAddrOp C0.P 23 x1218 (.int .i64 i1220)) fun x1224 =>
     Option.bind (loadAt C0.P st1221 25 x1224) fun x1226 =>
     Option.bind (de_Ai64_b_i64_s_a_aZ x1226) fun (i1227, b1228, i1229, s1230, x1231, x1232) =>
     Option.bind (storeAt C0.P (St.push st1221 (.cells 25 true [(.int .i64 0), (.bool false), (.int .i64 0), (.str []), AV.snil, AV.snil])) 25 (.ref (St.next st1221) 0) (.agg [(.int .i64 i1227), (.bool b1228), (.int .i64 i1229), (.str s1230), x1231, x1232])) fun st1235 =>
     Option.bind (loadAt C0.P st1235 25 (.ref (St.next st1221) 0)) fun x1237 =>
     Option.bind (de_Ai64_b_i64_s_a_aZ x1237) fun (i1238, b1239, i1240, s1241, x1242, x1243) =>
     Option.bind (R.f41 i1238 b1239 i1240 s1241 x1242 x1243 (IntKind.wrap .i64 (i1217 + 1)) st1235) fun (i1245, st1247) =>
     if (i1245 = 0) then
      value_check_l11010 R i1217 x1218 i1219 r (IntKind.wrap .i64 (i1220 + 1)) st1247
     else
      some (.inl (i1245, st1247))
    else
     some (.inr st1221)
noncomputable def value_check_l11010_x (o : (Int × St) ⊕ (St)) : AExit × List (Nat × AV) × St := match o with
  | .inl (a0, a1) => (.ret, [(4, .int .i64 a0)], a1)
  | .inr a0 => ((.exit 1), [], a0)
theorem value_check_l11010_ok (R : Rc41) (n : Nat) (hR : R.ok n) (i1217 : Int) (x1218 : AV) (i1219 : Int) : ∀ (r : Nat) (i1220 : Int) (st1221 : St) (o : (Int × St) ⊕ (St)), value_check_l11010 R i1217 x1218 i1219 r i1220 st1221 = some o →
    Leads 49 (loopK (fun fr k => execK C0 (callK C0 ext0 R.n (n + 2)) 41 R.n none (codeAt C0.P 41 [1, 1, 0, 1, 0, 0]) fr k) r) (modsOf (codeAt C0.P 41 [1, 1, 0, 1, 0, 0])) [(1, (.int .i64 i1217)), (35, x1218), (36, (.int .i64 i1219)), (37, (.int .i64 i1220))] st1221 (value_check_l11010_x o).1 (value_check_l11010_x o).2.1 (value_check_l11010_x o).2.2 := by
  intro r
  induction r with
  | zero => intro i1220 st1221 o h; exact nomatch h
  | succ r ih =>
    intro i1220 st1221 o
    unfold value_check_l11010
    refine iteE (fun h1222 => ?_) (fun h1222 => ?_)
    · refine bindE fun x1224 h1223 => ?_
      refine bindE fun x1226 h1225 => ?_
      refine bindE fun o h1233 => ?_
      obtain ⟨i1227, b1228, i1229, s1230, x1231, x1232⟩ := o
      obtain rfl := de_Ai64_b_i64_s_a_aZ_ok h1233
      refine bindE fun st1235 h1234 => ?_
      refine bindE fun x1237 h1236 => ?_
      refine bindE fun o h1244 => ?_
      obtain ⟨i1238, b1239, i1240, s1241, x1242, x1243⟩ := o
      obtain rfl := de_Ai64_b_i64_s_a_aZ_ok h1244
      refine bindE fun o h1246 => ?_
      obtain ⟨i1245, st1247⟩ := o
      refine iteE (fun h1248 => ?_) (fun h1248 => ?_)
      · intro h
        exact loop_more (runO_ok (hs := [.dec true, .into, .into, .val x1224, .val (.agg [(.int .i64 i1227), (.bool b1228), (.int .i64 i1229), (.str s1230), x1231, x1232]), .run 1, .eff AV.undef st1235, .val (.agg [(.int .i64 i1238), (.bool b1239), (.int .i64 i1240), (.str s1241), x1242, x1243]), .run 2, .call (.int .i64 i1245) st1247, .run 2, .dec false, .into, .run 2]) (want := [1, 35, 36, 37]) (by kernel_rfl) (.cons (bneF h1248) <| .cons (hR.h41 (n + 2) (by omega) i1238 b1239 i1240 s1241 x1242 x1243 (IntKind.wrap .i64 (i1217 + 1)) st1235 _ h1246) <| .cons h1236 <| .cons (sto_ok h1234) <| .cons h1225 <| .cons h1223 <| .cons (decide_eq_true h1222) .nil)) (ih (IntKind.wrap .i64 (i1220 + 1)) st1247 _ h)
      · intro h
        obtain rfl := Option.some.inj h
        exact loop_done (runO_ok (hs := [.dec true, .into, .into, .val x1224, .val (.agg [(.int .i64 i1227), (.bool b1228), (.int .i64 i1229), (.str s1230), x1231, x1232]), .run 1, .eff AV.undef st1235, .val (.agg [(.int .i64 i1238), (.bool b1239), (.int .i64 i1240), (.str s1241), x1242, x1243]), .run 2, .call (.int .i64 i1245) st1247, .run 2, .dec true, .into, .run 2]) (want := [4]) (by kernel_rfl) (.cons (bneT h1248) <| .cons (hR.h41 (n + 2) (by omega) i1238 b1239 i1240 s1241 x1242 x1243 (IntKind.wrap .i64 (i1217 + 1)) st1235 _ h1246) <| .cons h1236 <| .cons (sto_ok h1234) <| .cons h1225 <| .cons h1223 <| .cons (decide_eq_true h1222) .nil)) (by kernel_rfl)
    · intro h
      obtain rfl := Option.some.inj h
      exact loop_done (runO_ok (hs := [.dec false, .into]) (want := []) (by kernel_rfl) (.cons (decide_eq_false h1222) .nil)) (by kernel_rfl)

/- parchment/value.check -/
def value_check_n : Nat := 41
noncomputable def value_check (R : Rc41) (i1099 : Int) (b1100 : Bool) (i1101 : Int) (s1102 : List UInt8) (x1103 : AV) (x1104 : AV) (i1105 : Int) (st1106 : St) : Option (Int × St) :=
  Option.bind (boxOp 25 (.agg [(.int .i64 i1099), (.bool b1100), (.int .i64 i1101), (.str s1102), x1103, x1104]) st1106) fun (x1109, st1108) =>
  if (i1105 > 8) then
   some (30, st1108)
  else
   Option.bind (value_check_j100110 R x1109 st1108) fun (b1158, st1159) =>
   if b1158 = true then
    some (6, st1159)
   else
    Option.bind (shift x1109 4) fun x1162 =>
    Option.bind (loadAt C0.P st1159 23 x1162) fun x1164 =>
    Option.bind (lenOf x1164) fun n1166 =>
    if ((n1166 : Int) > 32) then
     some (3, st1159)
    else
     Option.bind (loadAt C0.P st1159 25 x1109) fun x1169 =>
     Option.bind (de_Ai64_b_i64_s_a_aZ x1169) fun (i1170, b1171, i1172, s1173, x1174, x1175) =>
     Option.bind (value_names R.n i1170 b1171 i1172 s1173 x1174 x1175 st1159) fun (b1177, st1179) =>
     if b1177 = true then
      Option.bind (loadAt C0.P st1179 23 x1162) fun x1182 =>
      Option.bind (lenOf x1182) fun n1184 =>
      Option.bind (value_check_l11010 R i1105 x1182 (n1184 : Int) R.n 0 st1179) fun o => match o with
      | .inl (i1250, st1251) =>
       some (i1250, st1251)
      | .inr st1252 =>
       some (0, st1252)
     else
      some (31, st1179)
theorem value_check_ok (R : Rc41) (n : Nat) (hR : R.ok n) (i1099 : Int) (b1100 : Bool) (i1101 : Int) (s1102 : List UInt8) (x1103 : AV) (x1104 : AV) (i1105 : Int) (st1106 : St) (r : Int × St) (h : value_check R i1099 b1100 i1101 s1102 x1103 x1104 i1105 st1106 = some r) :
    CallsTo (callK C0 ext0 R.n (n + 3)) false 41 [(.agg [(.int .i64 i1099), (.bool b1100), (.int .i64 i1101), (.str s1102), x1103, x1104]), (.int .i64 i1105)] st1106 (.int .i64 r.1) r.2 := by
  revert h
  unfold value_check
  refine bindE fun o h1107 => ?_
  obtain ⟨x1109, st1108⟩ := o
  refine iteE (fun h1110 => ?_) (fun h1110 => ?_)
  · intro h
    obtain rfl := Option.some.inj h
    exact callO_ok (hs := [.eff x1109 st1108, .run 1, .into, .run 1, .dec true, .run 1, .into, .run 1]) (by kernel_rfl) (.cons (decide_eq_true h1110) <| .cons (box_ok h1107) .nil) (by kernel_rfl) (by kernel_rfl)
  · refine bindE fun o h1157 => ?_
    obtain ⟨b1158, st1159⟩ := o
    refine iteE (fun h1160 => ?_) (fun h1160 => ?_)
    · subst h1160
      intro h
      obtain rfl := Option.some.inj h
      exact callO_ok (hs := [.eff x1109 st1108, .run 1, .into, .run 1, .dec false, .run 1, .into, .absG [2] .normal [(11, (.bool true))] st1159, .into, .run 1]) (by kernel_rfl) (.cons (value_check_j100110_ok R n hR x1109 st1108 _ h1157) <| .cons (decide_eq_false h1110) <| .cons (box_ok h1107) .nil) (by kernel_rfl) (by kernel_rfl)
    · obtain rfl := bF h1160
      refine bindE fun x1162 h1161 => ?_
      refine bindE fun x1164 h1163 => ?_
      refine bindE fun n1166 h1165 => ?_
      refine iteE (fun h1167 => ?_) (fun h1167 => ?_)
      · intro h
        obtain rfl := Option.some.inj h
        exact callO_ok (hs := [.eff x1109 st1108, .run 1, .into, .run 1, .dec false, .run 1, .into, .absG [2] .normal [(11, (.bool false))] st1159, .into, .val x1162, .val x1164, .val (.int .i64 (n1166 : Int)), .dec true, .run 1, .into, .run 1]) (by kernel_rfl) (.cons (decide_eq_true h1167) <| .cons (len_ok (P := C0.P) (t := 23) (e := 25) (by kernel_rfl) h1165) <| .cons h1163 <| .cons h1161 <| .cons (value_check_j100110_ok R n hR x1109 st1108 _ h1157) <| .cons (decide_eq_false h1110) <| .cons (box_ok h1107) .nil) (by kernel_rfl) (by kernel_rfl)
      · refine bindE fun x1169 h1168 => ?_
        refine bindE fun o h1176 => ?_
        obtain ⟨i1170, b1171, i1172, s1173, x1174, x1175⟩ := o
        obtain rfl := de_Ai64_b_i64_s_a_aZ_ok h1176
        refine bindE fun o h1178 => ?_
        obtain ⟨b1177, st1179⟩ := o
        refine iteE (fun h1180 => ?_) (fun h1180 => ?_)
        · subst h1180
          refine bindE fun x1182 h1181 => ?_
          refine bindE fun n1184 h1183 => ?_
          refine bindE fun o h1249 => ?_
          rcases o with ⟨i1250, st1251⟩ | st1252
          · intro h
            obtain rfl := Option.some.inj h
            exact callO_ok (hs := [.eff x1109 st1108, .run 1, .into, .run 1, .dec false, .run 1, .into, .absG [2] .normal [(11, (.bool false))] st1159, .into, .val x1162, .val x1164, .val (.int .i64 (n1166 : Int)), .dec false, .run 1, .into, .val (.agg [(.int .i64 i1170), (.bool b1171), (.int .i64 i1172), (.str s1173), x1174, x1175]), .call (.bool true) st1179, .run 2, .into, .val x1162, .val x1182, .val (.int .i64 (n1184 : Int)), .run 1, .into, .abs [1, 35, 36, 37] .ret [(4, (.int .i64 i1250))] st1251]) (by kernel_rfl) (.cons (loop_leads (value_check_l11010_ok R n hR i1105 x1182 (n1184 : Int) R.n 0 st1179 _ h1249)) <| .cons (len_ok (P := C0.P) (t := 23) (e := 25) (by kernel_rfl) h1183) <| .cons h1181 <| .cons h1161 <| .cons (value_names_ok R.n n i1170 b1171 i1172 s1173 x1174 x1175 st1159 _ h1178) <| .cons h1168 <| .cons (decide_eq_false h1167) <| .cons (len_ok (P := C0.P) (t := 23) (e := 25) (by kernel_rfl) h1165) <| .cons h1163 <| .cons h1161 <| .cons (value_check_j100110_ok R n hR x1109 st1108 _ h1157) <| .cons (decide_eq_false h1110) <| .cons (box_ok h1107) .nil) (by kernel_rfl) (by kernel_rfl)
          · intro h
            obtain rfl := Option.some.inj h
            exact callO_ok (hs := [.eff x1109 st1108, .run 1, .into, .run 1, .dec false, .run 1, .into, .absG [2] .normal [(11, (.bool false))] st1159, .into, .val x1162, .val x1164, .val (.int .i64 (n1166 : Int)), .dec false, .run 1, .into, .val (.agg [(.int .i64 i1170), (.bool b1171), (.int .i64 i1172), (.str s1173), x1174, x1175]), .call (.bool true) st1179, .run 2, .into, .val x1162, .val x1182, .val (.int .i64 (n1184 : Int)), .run 1, .into, .abs [1, 35, 36, 37] (.exit 1) [] st1252, .run 1]) (by kernel_rfl) (.cons (loop_leads (value_check_l11010_ok R n hR i1105 x1182 (n1184 : Int) R.n 0 st1179 _ h1249)) <| .cons (len_ok (P := C0.P) (t := 23) (e := 25) (by kernel_rfl) h1183) <| .cons h1181 <| .cons h1161 <| .cons (value_names_ok R.n n i1170 b1171 i1172 s1173 x1174 x1175 st1159 _ h1178) <| .cons h1168 <| .cons (decide_eq_false h1167) <| .cons (len_ok (P := C0.P) (t := 23) (e := 25) (by kernel_rfl) h1165) <| .cons h1163 <| .cons h1161 <| .cons (value_check_j100110_ok R n hR x1109 st1108 _ h1157) <| .cons (decide_eq_false h1110) <| .cons (box_ok h1107) .nil) (by kernel_rfl) (by kernel_rfl)
        · obtain rfl := bF h1180
          intro h
          obtain rfl := Option.some.inj h
          exact callO_ok (hs := [.eff x1109 st1108, .run 1, .into, .run 1, .dec false, .run 1, .into, .absG [2] .normal [(11, (.bool false))] st1159, .into, .val x1162, .val x1164, .val (.int .i64 (n1166 : Int)), .dec false, .run 1, .into, .val (.agg [(.int .i64 i1170), (.bool b1171), (.int .i64 i1172), (.str s1173), x1174, x1175]), .call (.bool false) st1179, .run 2, .into, .run 1]) (by kernel_rfl) (.cons (value_names_ok R.n n i1170 b1171 i1172 s1173 x1174 x1175 st1159 _ h1178) <| .cons h1168 <| .cons (decide_eq_false h1167) <| .cons (len_ok (P := C0.P) (t := 23) (e := 25) (by kernel_rfl) h1165) <| .cons h1163 <| .cons h1161 <| .cons (value_check_j100110_ok R n hR x1109 st1108 _ h1157) <| .cons (decide_eq_false h1110) <| .cons (box_ok h1107) .nil) (by kernel_rfl) (by kernel_rfl)

noncomputable def rc41 (R : Nat) : Nat → Rc41
  | 0 => ⟨R, (fun _ _ _ _ _ _ _ _ => none)⟩
  | k + 1 => ⟨R, (fun a0 a1 a2 a3 a4 a5 a6 st => value_check (rc41 R k) a0 a1 a2 a3 a4 a5 a6 st)⟩
theorem rc41_n (R : Nat) : ∀ k, (rc41 R k).n = R
  | 0 => rfl
  | _ + 1 => rfl
theorem rc41_ok (R : Nat) : ∀ k n, 3 * k ≤ n → (rc41 R k).ok n
  | 0, n, _ => (fun _ _ _ _ _ _ _ _ _ _ _ h => nomatch h)
  | k + 1, n, hn => 
    fun m hm a0 a1 a2 a3 a4 a5 a6 st r h => by
      obtain ⟨j, rfl⟩ : ∃ j, m = j + 3 := ⟨m - 3, by omega⟩
      have := value_check_ok (rc41 R k) j (rc41_ok R k j (by omega)) a0 a1 a2 a3 a4 a5 a6 st r h
      rw [rc41_n] at this
      exact this
noncomputable def value_check_top (R : Nat) (a0 : Int) (a1 : Bool) (a2 : Int) (a3 : List UInt8) (a4 : AV) (a5 : AV) (a6 : Int) (st : St) : Option (Int × St) := value_check (rc41 R 4000) a0 a1 a2 a3 a4 a5 a6 st
theorem value_check_top_ok (R n : Nat) (a0 : Int) (a1 : Bool) (a2 : Int) (a3 : List UInt8) (a4 : AV) (a5 : AV) (a6 : Int) (st : St) (r : Int × St) (h : value_check_top R a0 a1 a2 a3 a4 a5 a6 st = some r) : CallsTo (callK C0 ext0 R (n + 12003)) false 41 [(.agg [.int .i64 a0, .bool a1, .int .i64 a2, .str a3, a4, a5]), (.int .i64 a6)] st (.int .i64 r.1) r.2 := by
  have := value_check_ok (rc41 R 4000) (n + 12000) (rc41_ok R 4000 _ (by omega)) a0 a1 a2 a3 a4 a5 a6 st r h
  rw [rc41_n] at this
  exact this

/- parchment/enc.Bool -/
def enc_Bool_n : Nat := 84
noncomputable def enc_Bool (R : Nat) (b1257 : Bool) : Option (List UInt8) :=
  if b1257 = true then
   some [1]
  else
   some [0]
theorem enc_Bool_ok (R n : Nat) (b1257 : Bool) (st1258 : St) (r : List UInt8) (h : enc_Bool R b1257 = some r) :
    CallsTo (callK C0 ext0 R (n + 1)) false 84 [(.bool b1257)] st1258 (.str r) st1258 := by
  revert h
  unfold enc_Bool
  refine iteE (fun h1259 => ?_) (fun h1259 => ?_)
  · subst h1259
    intro h
    obtain rfl := Option.some.inj h
    exact callO_ok (hs := [.run 2, .into, .run 1]) (by kernel_rfl) .nil (by kernel_rfl) (by kernel_rfl)
  · obtain rfl := bF h1259
    intro h
    obtain rfl := Option.some.inj h
    exact callO_ok (hs := [.run 2, .into, .run 1]) (by kernel_rfl) .nil (by kernel_rfl) (by kernel_rfl)

noncomputable def enc_Uint_l1100 (R : Nat) : Nat → Int → AV → St → Option ((Int × AV × St))
  | 0, _, _, _ => none
  | r + 1, i1275, x1276, st1277 =>
    if (i1275 ≥ 128) then
     Option.bind (mkNew (buildSliceOp C0.P (C0.byref 87) 90 1 [(0, (.int .u8 (orI .u8 (IntKind.wrap .u8 i1275) 128)))]) st1277) fun (x1281, st1280) =>
     Option.bind (appendOp C0.P (C0.byref 87) st1280 #[90, 90] x1276 x1281) fun (x1284, st1283) =>
     enc_Uint_l1100 R r (Int.fdiv i1275 (2 ^ 7)) x1284 st1283
    else
     some (i1275, x1276, st1277)
noncomputable def enc_Uint_l1100_x (o : (Int × AV × St)) : AExit × List (Nat × AV) × St := match o with
  | (a0, a1, a2) => ((.exit 0), [(0, .int .u64 a0), (3, a1)], a2)
theorem enc_Uint_l1100_ok (R n : Nat) : ∀ (r : Nat) (i1275 : Int) (x1276 : AV) (st1277 : St) (o : (Int × AV × St)), enc_Uint_l1100 R r i1275 x1276 st1277 = some o →
    Leads 20 (loopK (fun fr k => execK C0 (callK C0 ext0 R n) 87 R none (codeAt C0.P 87 [1, 1, 0, 0, 0]) fr k) r) (modsOf (codeAt C0.P 87 [1, 1, 0, 0, 0])) [(0, (.int .u64 i1275)), (3, x1276)] st1277 (enc_Uint_l1100_x o).1 (enc_Uint_l1100_x o).2.1 (enc_Uint_l1100_x o).2.2 := by
  intro r
  induction r with
  | zero => intro i1275 x1276 st1277 o h; exact nomatch h
  | succ r ih =>
    intro i1275 x1276 st1277 o
    unfold enc_Uint_l1100
    refine iteE (fun h1278 => ?_) (fun h1278 => ?_)
    · refine bindE fun o h1279 => ?_
      obtain ⟨x1281, st1280⟩ := o
      refine bindE fun o h1282 => ?_
      obtain ⟨x1284, st1283⟩ := o
      intro h
      exact loop_more (runO_ok (hs := [.run 1, .dec true, .into, .into, .run 4, .eff x1281 st1280, .eff x1284 st1283, .run 4]) (want := [0, 3]) (by kernel_rfl) (.cons h1282 <| .cons h1279 <| .cons (decide_eq_true h1278) .nil)) (ih (Int.fdiv i1275 (2 ^ 7)) x1284 st1283 _ h)
    · intro h
      obtain rfl := Option.some.inj h
      exact loop_done (runO_ok (hs := [.run 1, .dec false, .into]) (want := [0, 3]) (by kernel_rfl) (.cons (decide_eq_false h1278) .nil)) (by kernel_rfl)

noncomputable def enc_Uint_c110 (R : Nat) (i1289 : Int) (st1290 : St) : Option (Int × AV × St) :=
  Option.bind (enc_Uint_l1100 R R i1289 AV.snil st1290) fun (i1292, x1293, st1294) =>
  some (i1292, x1293, st1294)
theorem enc_Uint_c110_ok (R n : Nat) (i1289 : Int) (st1290 : St) (r : Int × AV × St) (h : enc_Uint_c110 R i1289 st1290 = some r) :
    Leads 20 (execK C0 (callK C0 ext0 R n) 87 R none (codeAt C0.P 87 [1, 1, 0])) (modsOf (codeAt C0.P 87 [1, 1, 0])) [(0, (.int .u64 i1289)), (3, AV.snil)] st1290 .normal [(0, .int .u64 r.1), (3, r.2.1)] r.2.2 := by
  revert h
  unfold enc_Uint_c110
  refine bindE fun o h1291 => ?_
  obtain ⟨i1292, x1293, st1294⟩ := o
  intro h
  obtain rfl := Option.some.inj h
  exact runO_ok (hs := [.into, .abs [0, 3] (.exit 0) [(0, (.int .u64 i1292)), (3, x1293)] st1294]) (want := [0, 3]) (by kernel_rfl) (.cons (loop_leads (enc_Uint_l1100_ok R n R i1289 AV.snil st1290 _ h1291)) .nil)

/- parchment/enc.Uint -/
def enc_Uint_n : Nat := 87
noncomputable def enc_Uint (R : Nat) (i1261 : Int) (st1262 : St) : Option (List UInt8 × St) :=
  Option.bind (enc_Uint_c110 R i1261 st1262) fun (i1296, x1297, st1298) =>
  Option.bind (mkNew (buildSliceOp C0.P (C0.byref 87) 90 1 [(0, (.int .u8 (IntKind.wrap .u8 i1296)))]) st1298) fun (x1301, st1300) =>
  Option.bind (appendOp C0.P (C0.byref 87) st1300 #[90, 90] x1297 x1301) fun (x1304, st1303) =>
  Option.bind (strOf st1303 x1304) fun s1306 =>
  some (s1306, st1303)
theorem enc_Uint_ok (R n : Nat) (i1261 : Int) (st1262 : St) (r : List UInt8 × St) (h : enc_Uint R i1261 st1262 = some r) :
    CallsTo (callK C0 ext0 R (n + 1)) false 87 [(.int .u64 i1261)] st1262 (.str r.1) r.2 := by
  revert h
  unfold enc_Uint
  refine bindE fun o h1295 => ?_
  obtain ⟨i1296, x1297, st1298⟩ := o
  refine bindE fun o h1299 => ?_
  obtain ⟨x1301, st1300⟩ := o
  refine bindE fun o h1302 => ?_
  obtain ⟨x1304, st1303⟩ := o
  refine bindE fun s1306 h1305 => ?_
  intro h
  obtain rfl := Option.some.inj h
  exact callO_ok (hs := [.run 2, .absB [0, 3] .normal [(0, (.int .u64 i1296)), (3, x1297)] st1298, .run 3, .eff x1301 st1300, .eff x1304 st1303, .val (.str s1306), .run 1]) (by kernel_rfl) (.cons (strOf_ok h1305) <| .cons h1302 <| .cons h1299 <| .cons (enc_Uint_c110_ok R n i1261 st1262 _ h1295) .nil) (by kernel_rfl) (by kernel_rfl)

/- parchment/enc.Int -/
def enc_Int_n : Nat := 85
noncomputable def enc_Int (R : Nat) (i1308 : Int) (st1309 : St) : Option (List UInt8 × St) :=
  Option.bind (enc_Uint R (xorI .u64 (IntKind.wrap .u64 ((IntKind.wrap .u64 i1308) * 2 ^ 1)) (IntKind.wrap .u64 (Int.fdiv i1308 (2 ^ 63)))) st1309) fun (s1310, st1312) =>
  some (s1310, st1312)
theorem enc_Int_ok (R n : Nat) (i1308 : Int) (st1309 : St) (r : List UInt8 × St) (h : enc_Int R i1308 st1309 = some r) :
    CallsTo (callK C0 ext0 R (n + 2)) false 85 [(.int .i64 i1308)] st1309 (.str r.1) r.2 := by
  revert h
  unfold enc_Int
  refine bindE fun o h1311 => ?_
  obtain ⟨s1310, st1312⟩ := o
  intro h
  obtain rfl := Option.some.inj h
  exact callO_ok (hs := [.run 8, .call (.str s1310) st1312, .run 1]) (by kernel_rfl) (.cons (enc_Uint_ok R n (xorI .u64 (IntKind.wrap .u64 ((IntKind.wrap .u64 i1308) * 2 ^ 1)) (IntKind.wrap .u64 (Int.fdiv i1308 (2 ^ 63)))) st1309 _ h1311) .nil) (by kernel_rfl) (by kernel_rfl)

/- parchment/enc.Text -/
def enc_Text_n : Nat := 86
noncomputable def enc_Text (R : Nat) (s1314 : List UInt8) (st1315 : St) : Option (List UInt8 × St) :=
  Option.bind (enc_Uint R (IntKind.wrap .u64 (List.length s1314 : Int)) st1315) fun (s1316, st1318) =>
  Option.bind (catS s1316 s1314) fun s1320 =>
  some (s1320, st1318)
theorem enc_Text_ok (R n : Nat) (s1314 : List UInt8) (st1315 : St) (r : List UInt8 × St) (h : enc_Text R s1314 st1315 = some r) :
    CallsTo (callK C0 ext0 R (n + 2)) false 86 [(.str s1314)] st1315 (.str r.1) r.2 := by
  revert h
  unfold enc_Text
  refine bindE fun o h1317 => ?_
  obtain ⟨s1316, st1318⟩ := o
  refine bindE fun s1320 h1319 => ?_
  intro h
  obtain rfl := Option.some.inj h
  exact callO_ok (hs := [.run 4, .call (.str s1316) st1318, .run 1, .val (.str s1320), .run 1]) (by kernel_rfl) (.cons (cat_ok h1319) <| .cons (enc_Uint_ok R n (IntKind.wrap .u64 (List.length s1314 : Int)) st1315 _ h1317) .nil) (by kernel_rfl) (by kernel_rfl)

/-- A group of functions that call one another: how many rounds, what they come to. -/
structure Rc42 where
  n : Nat
  f42 : Int → Bool → Int → List UInt8 → AV → AV → St → Option (List UInt8 × St)
def Rc42.ok (R : Rc42) (n : Nat) : Prop := (∀ m, n ≤ m → ∀ (a0 : Int) (a1 : Bool) (a2 : Int) (a3 : List UInt8) (a4 : AV) (a5 : AV) (st : St) (r : List UInt8 × St), R.f42 a0 a1 a2 a3 a4 a5 st = some r → CallsTo (callK C0 ext0 R.n m) false 42 [(.agg [.int .i64 a0, .bool a1, .int .i64 a2, .str a3, a4, a5])] st (.str r.1) r.2)
theorem Rc42.ok.h42 {R : Rc42} {n : Nat} (h : R.ok n) : (∀ m, n ≤ m → ∀ (a0 : Int) (a1 : Bool) (a2 : Int) (a3 : List UInt8) (a4 : AV) (a5 : AV) (st : St) (r : List UInt8 × St), R.f42 a0 a1 a2 a3 a4 a5 st = some r → CallsTo (callK C0 ext0 R.n m) false 42 [(.agg [.int .i64 a0, .bool a1, .int .i64 a2, .str a3, a4, a5])] st (.str r.1) r.2) := h
theorem Rc42.ok.mono {R : Rc42} {n m : Nat} (h : R.ok n) (hn : n ≤ m) : R.ok m := fun k hk => h.h42 k (Nat.le_trans hn hk)

noncomputable def value_bytes_j11010111100 (R : Rc42) (i1378 : Int) : Option (Bool) :=
  if (i1378 = 3) then
   some true
  else
   some false
theorem value_bytes_j11010111100_ok (R : Rc42) (n : Nat) (hR : R.ok n) (i1378 : Int) (st1379 : St) (r : Bool) (h : value_bytes_j11010111100 R i1378 = some r) :
    Leads 72 (execK C0 (callK C0 ext0 R.n (n + 2)) 42 R.n none (codeAt C0.P 42 [1, 1, 0, 1, 0, 1, 1, 1, 1, 0, 0])) (modsOf (codeAt C0.P 42 [1, 1, 0, 1, 0, 1, 1, 1, 1, 0, 0])) [(12, (.int .i64 i1378))] st1379 .normal [(27, .bool r)] st1379 := by
  revert h
  unfold value_bytes_j11010111100
  refine iteE (fun h1380 => ?_) (fun h1380 => ?_)
  · intro h
    obtain rfl := Option.some.inj h
    exact runO_ok (hs := [.dec true, .run 1]) (want := [27]) (by kernel_rfl) (.cons (beqT h1380) .nil)
  · intro h
    obtain rfl := Option.some.inj h
    exact runO_ok (hs := [.dec false, .run 1]) (want := [27]) (by kernel_rfl) (.cons (beqF h1380) .nil)

noncomputable def value_bytes_c11010111101 (R : Rc42) (x1390 : AV) (s1391 : List UInt8) (i1392 : Int) (b1393 : Bool) : Option (Bool) :=
  if b1393 = true then
   some true
  else
   if (i1392 = 4) then
    some true
   else
    some false
theorem value_bytes_c11010111101_ok (R : Rc42) (n : Nat) (hR : R.ok n) (x1390 : AV) (s1391 : List UInt8) (i1392 : Int) (b1393 : Bool) (st1394 : St) (r : Bool) (h : value_bytes_c11010111101 R x1390 s1391 i1392 b1393 = some r) :
    Leads 72 (execK C0 (callK C0 ext0 R.n (n + 2)) 42 R.n none (codeAt C0.P 42 [1, 1, 0, 1, 0, 1, 1, 1, 1, 0, 1])) (modsOf (codeAt C0.P 42 [1, 1, 0, 1, 0, 1, 1, 1, 1, 0, 1])) [(1, x1390), (3, (.str s1391)), (12, (.int .i64 i1392)), (27, (.bool b1393))] st1394 .normal [(27, .bool r)] st1394 := by
  revert h
  unfold value_bytes_c11010111101
  refine iteE (fun h1395 => ?_) (fun h1395 => ?_)
  · subst h1395
    intro h
    obtain rfl := Option.some.inj h
    exact runO_ok (hs := [.into]) (want := [27]) (by kernel_rfl) .nil
  · obtain rfl := bF h1395
    refine iteE (fun h1396 => ?_) (fun h1396 => ?_)
    · intro h
      obtain rfl := Option.some.inj h
      exact runO_ok (hs := [.into, .dec true, .run 1]) (want := [27]) (by kernel_rfl) (.cons (beqT h1396) .nil)
    · intro h
      obtain rfl := Option.some.inj h
      exact runO_ok (hs := [.into, .dec false, .run 1]) (want := [27]) (by kernel_rfl) (.cons (beqF h1396) .nil)

noncomputable def value_bytes_j1101011111100 (R : Rc42) (i1414 : Int) : Option (Bool) :=
  if (i1414 = 5) then
   some true
  else
   some false
theorem value_bytes_j1101011111100_ok (R : Rc42) (n : Nat) (hR : R.ok n) (i1414 : Int) (st1415 : St) (r : Bool) (h : value_bytes_j1101011111100 R i1414 = some r) :
    Leads 72 (execK C0 (callK C0 ext0 R.n (n + 2)) 42 R.n none (codeAt C0.P 42 [1, 1, 0, 1, 0, 1, 1, 1, 1, 1, 1, 0, 0])) (modsOf (codeAt C0.P 42 [1, 1, 0, 1, 0, 1, 1, 1, 1, 1, 1, 0, 0])) [(12, (.int .i64 i1414))] st1415 .normal [(35, .bool r)] st1415 := by
  revert h
  unfold value_bytes_j1101011111100
  refine iteE (fun h1416 => ?_) (fun h1416 => ?_)
  · intro h
    obtain rfl := Option.some.inj h
    exact runO_ok (hs := [.dec true, .run 1]) (want := [35]) (by kernel_rfl) (.cons (beqT h1416) .nil)
  · intro h
    obtain rfl := Option.some.inj h
    exact runO_ok (hs := [.dec false, .run 1]) (want := [35]) (by kernel_rfl) (.cons (beqF h1416) .nil)

noncomputable def value_bytes_c1101011111101 (R : Rc42) (x1426 : AV) (s1427 : List UInt8) (i1428 : Int) (b1429 : Bool) : Option (Bool) :=
  if b1429 = true then
   some true
  else
   if (i1428 = 6) then
    some true
   else
    some false
theorem value_bytes_c1101011111101_ok (R : Rc42) (n : Nat) (hR : R.ok n) (x1426 : AV) (s1427 : List UInt8) (i1428 : Int) (b1429 : Bool) (st1430 : St) (r : Bool) (h : value_bytes_c1101011111101 R x1426 s1427 i1428 b1429 = some r) :
    Leads 72 (execK C0 (callK C0 ext0 R.n (n + 2)) 42 R.n none (codeAt C0.P 42 [1, 1, 0, 1, 0, 1, 1, 1, 1, 1, 1, 0, 1])) (modsOf (codeAt C0.P 42 [1, 1, 0, 1, 0, 1, 1, 1, 1, 1, 1, 0, 1])) [(1, x1426), (3, (.str s1427)), (12, (.int .i64 i1428)), (35, (.bool b1429))] st1430 .normal [(35, .bool r)] st1430 := by
  revert h
  unfold value_bytes_c1101011111101
  refine iteE (fun h1431 => ?_) (fun h1431 => ?_)
  · subst h1431
    intro h
    obtain rfl := Option.some.inj h
    exact runO_ok (hs := [.into]) (want := [35]) (by kernel_rfl) .nil
  · obtain rfl := bF h1431
    refine iteE (fun h1432 => ?_) (fun h1432 => ?_)
    · intro h
      obtain rfl := Option.some.inj h
      exact runO_ok (hs := [.into, .dec true, .run 1]) (want := [35]) (by kernel_rfl) (.cons (beqT h1432) .nil)
    · intro h
      obtain rfl := Option.some.inj h
      exact runO_ok (hs := [.into, .dec false, .run 1]) (want := [35]) (by kernel_rfl) (.cons (beqF h1432) .nil)

noncomputable def value_bytes_j110101111111011001100100 (R : Rc42) (x1491 : AV) (i1492 : Int) (st1493 : St) : Option (Bool × St) :=
  Option.bind (shift x1491 5) fun x1495 =>
  Option.bind (loadAt C0.P st1493 22 x1495) fun x1497 =>
  Option.bind (lenOf x1497) fun n1499 =>
  if (i1492 < (n1499 : Int)) then
   some (true, st1493)
  else
   some (false, st1493)
theorem value_bytes_j110101111111011001100100_ok (R : Rc42) (n : Nat) (hR : R.ok n) (x1491 : AV) (i1492 : Int) (st1493 : St) (r : Bool × St) (h : value_bytes_j110101111111011001100100 R x1491 i1492 st1493 = some r) :
    Leads 72 (execK C0 (callK C0 ext0 R.n (n + 2)) 42 R.n none (codeAt C0.P 42 [1, 1, 0, 1, 0, 1, 1, 1, 1, 1, 1, 1, 0, 1, 1, 0, 0, 1, 1, 0, 0, 1, 0, 0])) (modsOf (codeAt C0.P 42 [1, 1, 0, 1, 0, 1, 1, 1, 1, 1, 1, 1, 0, 1, 1, 0, 0, 1, 1, 0, 0, 1, 0, 0])) [(1, x1491), (4, (.int .i64 i1492))] st1493 .normal [(57, .bool r.1)] r.2 := by
  revert h
  unfold value_bytes_j110101111111011001100100
  refine bindE fun x1495 h1494 => ?_
  refine bindE fun x1497 h1496 => ?_
  refine bindE fun n1499 h1498 => ?_
  refine iteE (fun h1500 => ?_) (fun h1500 => ?_)
  · intro h
    obtain rfl := Option.some.inj h
    exact runO_ok (hs := [.run 1, .val x1495, .val x1497, .val (.int .i64 (n1499 : Int)), .dec true]) (want := [57]) (by kernel_rfl) (.cons (decide_eq_true h1500) <| .cons (len_ok (P := C0.P) (t := 22) (e := 9) (by kernel_rfl) h1498) <| .cons h1496 <| .cons h1494 .nil)
  · intro h
    obtain rfl := Option.some.inj h
    exact runO_ok (hs := [.run 1, .val x1495, .val x1497, .val (.int .i64 (n1499 : Int)), .dec false]) (want := [57]) (by kernel_rfl) (.cons (decide_eq_false h1500) <| .cons (len_ok (P := C0.P) (t := 22) (e := 9) (by kernel_rfl) h1498) <| .cons h1496 <| .cons h1494 .nil)

noncomputable def value_bytes_c110101111111011001100101 (R : Rc42) (x1529 : AV) (s1530 : List UInt8) (i1531 : Int) (d1532 : Nat) (x1533 : AV) (i1534 : Int) (i1535 : Int) (b1536 : Bool) (st1537 : St) : Option (List UInt8 × St) :=
  if b1536 = true then
   Option.bind (shift x1529 5) fun x1540 =>
   Option.bind (loadAt C0.P st1537 22 x1540) fun x1542 =>
   Option.bind (indexAddrOp C0.P 22 x1542 (.int .i64 i1531)) fun x1544 =>
   Option.bind (loadAt C0.P st1537 9 x1544) fun x1546 =>
   Option.bind (avStr x1546) fun s1547 =>
   Option.bind (enc_Text R.n s1547 st1537) fun (s1549, st1551) =>
   Option.bind (catS s1530 s1549) fun s1553 =>
   some (s1553, st1551)
  else
   some (s1530, st1537)
theorem value_bytes_c110101111111011001100101_ok (R : Rc42) (n : Nat) (hR : R.ok n) (x1529 : AV) (s1530 : List UInt8) (i1531 : Int) (d1532 : Nat) (x1533 : AV) (i1534 : Int) (i1535 : Int) (b1536 : Bool) (st1537 : St) (r : List UInt8 × St) (h : value_bytes_c110101111111011001100101 R x1529 s1530 i1531 d1532 x1533 i1534 i1535 b1536 st1537 = some r) :
    Leads 72 (execK C0 (callK C0 ext0 R.n (n + 2)) 42 R.n none (codeAt C0.P 42 [1, 1, 0, 1, 0, 1, 1, 1, 1, 1, 1, 1, 0, 1, 1, 0, 0, 1, 1, 0, 0, 1, 0, 1])) (modsOf (codeAt C0.P 42 [1, 1, 0, 1, 0, 1, 1, 1, 1, 1, 1, 1, 0, 1, 1, 0, 0, 1, 1, 0, 0, 1, 0, 1])) [(1, x1529), (3, (.str s1530)), (4, (.int .i64 i1531)), (5, (.ref d1532 0)), (46, x1533), (47, (.int .i64 i1534)), (48, (.int .i64 i1535)), (57, (.bool b1536))] st1537 .normal [(3, .str r.1)] r.2 := by
  revert h
  unfold value_bytes_c110101111111011001100101
  refine iteE (fun h1538 => ?_) (fun h1538 => ?_)
  · subst h1538
    refine bindE fun x1540 h1539 => ?_
    refine bindE fun x1542 h1541 => ?_
    refine bindE fun x1544 h1543 => ?_
    refine bindE fun x1546 h1545 => ?_
    refine bindE fun s1547 h1548 => ?_
    obtain rfl := avStr_ok h1548
    refine bindE fun o h1550 => ?_
    obtain ⟨s1549, st1551⟩ := o
    refine bindE fun s1553 h1552 => ?_
    intro h
    obtain rfl := Option.some.inj h
    exact runO_ok (hs := [.into, .run 1, .val x1540, .val x1542, .run 1, .val x1544, .val (.str s1547), .call (.str s1549) st1551, .val (.str s1553), .run 1]) (want := [3]) (by kernel_rfl) (.cons (cat_ok h1552) <| .cons (enc_Text_ok R.n n s1547 st1537 _ h1550) <| .cons h1545 <| .cons h1543 <| .cons h1541 <| .cons h1539 .nil)
  · obtain rfl := bF h1538
    intro h
    obtain rfl := Option.some.inj h
    exact runO_ok (hs := [.into]) (want := [3]) (by kernel_rfl) .nil

noncomputable def value_bytes_c11010111111101100110 (R : Rc42) (x1571 : AV) (s1572 : List UInt8) (x1573 : AV) (i1574 : Int) (i1575 : Int) (st1576 : St) : Option (List UInt8 × St) :=
  Option.bind (indexAddrOp C0.P 23 x1573 (.int .i64 i1575)) fun x1578 =>
  Option.bind (loadAt C0.P st1576 25 x1578) fun x1580 =>
  Option.bind (de_Ai64_b_i64_s_a_aZ x1580) fun (i1581, b1582, i1583, s1584, x1585, x1586) =>
  Option.bind (storeAt C0.P (St.push st1576 (.cells 25 true [(.int .i64 0), (.bool false), (.int .i64 0), (.str []), AV.snil, AV.snil])) 25 (.ref (St.next st1576) 0) (.agg [(.int .i64 i1581), (.bool b1582), (.int .i64 i1583), (.str s1584), x1585, x1586])) fun st1589 =>
  Option.bind (value_bytes_j110101111111011001100100 R x1571 i1575 st1589) fun (b1591, st1592) =>
  Option.bind (value_bytes_c110101111111011001100101 R x1571 s1572 i1575 (St.next st1576) x1573 i1574 i1575 b1591 st1592) fun (s1594, st1595) =>
  Option.bind (loadAt C0.P st1595 25 (.ref (St.next st1576) 0)) fun x1597 =>
  Option.bind (de_Ai64_b_i64_s_a_aZ x1597) fun (i1598, b1599, i1600, s1601, x1602, x1603) =>
  Option.bind (R.f42 i1598 b1599 i1600 s1601 x1602 x1603 st1595) fun (s1605, st1607) =>
  Option.bind (catS s1594 s1605) fun s1609 =>
  some (s1609, st1607)
theorem value_bytes_c11010111111101100110_ok (R : Rc42) (n : Nat) (hR : R.ok n) (x1571 : AV) (s1572 : List UInt8) (x1573 : AV) (i1574 : Int) (i1575 : Int) (st1576 : St) (r : List UInt8 × St) (h : value_bytes_c11010111111101100110 R x1571 s1572 x1573 i1574 i1575 st1576 = some r) :
    Leads 72 (execK C0 (callK C0 ext0 R.n (n + 2)) 42 R.n none (codeAt C0.P 42 [1, 1, 0, 1, 0, 1, 1, 1, 1, 1, 1, 1, 0, 1, 1, 0, 0, 1, 1, 0])) (modsOf (codeAt C0.P 42 [1, 1, 0, 1, 0, 1, 1, 1, 1, 1, 1, 1, 0, 1, 1, 0, 0, 1, 1, 0])) [(1, x1571), (3, (.str s1572)), (46, x1573), (47, (.int .i64 i1574)), (48, (.int .i64 i1575))] st1576 .normal [(3, .str r.1)] r.2 := by
  revert h
  unfold value_bytes_c11010111111101100110
  refine bindE fun x1578 h1577 => ?_
  refine bindE fun x1580 h1579 => ?_
  refine bindE fun o h1587 => ?_
  obtain ⟨i1581, b1582, i1583, s1584, x1585, x1586⟩ := o
  obtain rfl := de_Ai64_b_i64_s_a_aZ_ok h1587
  refine bindE fun st1589 h1588 => ?_
  refine bindE fun o h1590 => ?_
  obtain ⟨b1591, st1592⟩ := o
  refine bindE fun o h1593 => ?_
  obtain ⟨s1594, st1595⟩ := o
  refine bindE fun x1597 h1596 => ?_
  refine bindE fun o h1604 => ?_
  obtain ⟨i1598, b1599, i1600, s1601, x1602, x1603⟩ := o
  obtain rfl := de_Ai64_b_i64_s_a_aZ_ok h1604
  refine bindE fun o h1606 => ?_
  obtain ⟨s1605, st1607⟩ := o
  refine bindE fun s1609 h1608 => ?_
  intro h
  obtain rfl := Option.some.inj h
  exact runO_ok (hs := [.into, .run 1, .val x1578, .val (.agg [(.int .i64 i1581), (.bool b1582), (.int .i64 i1583), (.str s1584), x1585, x1586]), .run 2, .eff AV.undef st1589, .absG [1, 4] .normal [(57, (.bool b1591))] st1592, .absC [1, 3, 4, 5, 46, 47, 48, 57] .normal [(3, (.str s1594))] st1595, .run 1, .val (.agg [(.int .i64 i1598), (.bool b1599), (.int .i64 i1600), (.str s1601), x1602, x1603]), .call (.str s1605) st1607, .val (.str s1609), .run 1]) (want := [3]) (by kernel_rfl) (.cons (cat_ok h1608) <| .cons (hR.h42 (n + 2) (by omega) i1598 b1599 i1600 s1601 x1602 x1603 st1595 _ h1606) <| .cons h1596 <| .cons (value_bytes_c110101111111011001100101_ok R n hR x1571 s1572 i1575 (St.next st1576) x1573 i1574 i1575 b1591 st1592 _ h1593) <| .cons (value_bytes_j110101111111011001100100_ok R n hR x1571 i1575 st1589 _ h1590) <| .cons (sto_ok h1588) <| .cons h1579 <| .cons h1577 .nil)

noncomputable def value_bytes_l1101011111110110 (R : Rc42) (x1613 : AV) (x1614 : AV) (i1615 : Int) : Nat → List UInt8 → Int → St → Option ((List UInt8 × St))
  | 0, _, _, _ => none
  | r + 1, s1616, i1617, st1618 =>
    if (i1617 < i1615) then
     Option.bind (value_bytes_c11010111111101100110 R x1613 s1616 x1614 i1615 i1617 st1618) fun (s1621, st1622) =>
     value_bytes_l1101011111110110 R x1613 x1614 i1615 r s1621 (IntKind.wrap .i64 (i1617 + 1)) st1622
    else
     some (s1616, st1618)
noncomputable def value_bytes_l1101011111110110_x (o : (List UInt8 × St)) : AExit × List (Nat × AV) × St := match o with
  | (a0, a1) => ((.exit 1), [(3, .str a0)], a1)
theorem value_bytes_l1101011111110110_ok (R : Rc42) (n : Nat) (hR : R.ok n) (x1613 : AV) (x1614 : AV) (i1615 : Int) : ∀ (r : Nat) (s1616 : List UInt8) (i1617 : Int) (st1618 : St) (o : (List UInt8 × St)), value_bytes_l1101011111110110 R x1613 x1614 i1615 r s1616 i1617 st1618 = some o →
    Leads 72 (loopK (fun fr k => execK C0 (callK C0 ext0 R.n (n + 2)) 42 R.n none (codeAt C0.P 42 [1, 1, 0, 1, 0, 1, 1, 1, 1, 1, 1, 1, 0, 1, 1, 0, 0]) fr k) r) (modsOf (codeAt C0.P 42 [1, 1, 0, 1, 0, 1, 1, 1, 1, 1, 1, 1, 0, 1, 1, 0, 0])) [(1, x1613), (46, x1614), (47, (.int .i64 i1615)), (3, (.str s1616)), (48, (.int .i64 i1617))] st1618 (value_bytes_l1101011111110110_x o).1 (value_bytes_l1101011111110110_x o).2.1 (value_bytes_l1101011111110110_x o).2.2 := by
  intro r
  induction r with
  | zero => intro s1616 i1617 st1618 o h; exact nomatch h
  | succ r ih =>
    intro s1616 i1617 st1618 o
    unfold value_bytes_l1101011111110110
    refine iteE (fun h1619 => ?_) (fun h1619 => ?_)
    · refine bindE fun o h1620 => ?_
      obtain ⟨s1621, st1622⟩ := o
      intro h
      exact loop_more (runO_ok (hs := [.dec true, .into, .absB [1, 3, 46, 47, 48] .normal [(3, (.str s1621))] st1622, .run 2]) (want := [1, 46, 47, 3, 48]) (by kernel_rfl) (.cons (value_bytes_c11010111111101100110_ok R n hR x1613 s1616 x1614 i1615 i1617 st1618 _ h1620) <| .cons (decide_eq_true h1619) .nil)) (ih s1621 (IntKind.wrap .i64 (i1617 + 1)) st1622 _ h)
    · intro h
      obtain rfl := Option.some.inj h
      exact loop_done (runO_ok (hs := [.dec false, .into]) (want := [3]) (by kernel_rfl) (.cons (decide_eq_false h1619) .nil)) (by kernel_rfl)

noncomputable def value_bytes_c110101111111 (R : Rc42) (x1626 : AV) (s1627 : List UInt8) (b1628 : Bool) (st1629 : St) : Option (List UInt8 × St) :=
  if b1628 = true then
   Option.bind (shift x1626 4) fun x1632 =>
   Option.bind (loadAt C0.P st1629 23 x1632) fun x1634 =>
   Option.bind (lenOf x1634) fun n1636 =>
   Option.bind (enc_Uint R.n (IntKind.wrap .u64 (n1636 : Int)) st1629) fun (s1637, st1639) =>
   Option.bind (catS s1627 s1637) fun s1641 =>
   Option.bind (loadAt C0.P st1639 23 x1632) fun x1643 =>
   Option.bind (lenOf x1643) fun n1645 =>
   Option.bind (value_bytes_l1101011111110110 R x1626 x1643 (n1645 : Int) R.n s1641 0 st1639) fun (s1647, st1648) =>
   some (s1647, st1648)
  else
   some (s1627, st1629)
theorem value_bytes_c110101111111_ok (R : Rc42) (n : Nat) (hR : R.ok n) (x1626 : AV) (s1627 : List UInt8) (b1628 : Bool) (st1629 : St) (r : List UInt8 × St) (h : value_bytes_c110101111111 R x1626 s1627 b1628 st1629 = some r) :
    Leads 72 (execK C0 (callK C0 ext0 R.n (n + 2)) 42 R.n none (codeAt C0.P 42 [1, 1, 0, 1, 0, 1, 1, 1, 1, 1, 1, 1])) (modsOf (codeAt C0.P 42 [1, 1, 0, 1, 0, 1, 1, 1, 1, 1, 1, 1])) [(1, x1626), (3, (.str s1627)), (35, (.bool b1628))] st1629 .normal [(3, .str r.1)] r.2 := by
  revert h
  unfold value_bytes_c110101111111
  refine iteE (fun h1630 => ?_) (fun h1630 => ?_)
  · subst h1630
    refine bindE fun x1632 h1631 => ?_
    refine bindE fun x1634 h1633 => ?_
    refine bindE fun n1636 h1635 => ?_
    refine bindE fun o h1638 => ?_
    obtain ⟨s1637, st1639⟩ := o
    refine bindE fun s1641 h1640 => ?_
    refine bindE fun x1643 h1642 => ?_
    refine bindE fun n1645 h1644 => ?_
    refine bindE fun o h1646 => ?_
    obtain ⟨s1647, st1648⟩ := o
    intro h
    obtain rfl := Option.some.inj h
    exact runO_ok (hs := [.into, .run 1, .val x1632, .val x1634, .val (.int .i64 (n1636 : Int)), .run 1, .call (.str s1637) st1639, .val (.str s1641), .run 1, .val x1632, .val x1643, .val (.int .i64 (n1645 : Int)), .run 1, .into, .abs [1, 46, 47, 3, 48] (.exit 1) [(3, (.str s1647))] st1648]) (want := [3]) (by kernel_rfl) (.cons (loop_leads (value_bytes_l1101011111110110_ok R n hR x1626 x1643 (n1645 : Int) R.n s1641 0 st1639 _ h1646)) <| .cons (len_ok (P := C0.P) (t := 23) (e := 25) (by kernel_rfl) h1644) <| .cons h1642 <| .cons h1631 <| .cons (cat_ok h1640) <| .cons (enc_Uint_ok R.n (n + 1) (IntKind.wrap .u64 (n1636 : Int)) st1629 _ h1638) <| .cons (len_ok (P := C0.P) (t := 23) (e := 25) (by kernel_rfl) h1635) <| .cons h1633 <| .cons h1631 .nil)
  · obtain rfl := bF h1630
    intro h
    obtain rfl := Option.some.inj h
    exact runO_ok (hs := [.into]) (want := [3]) (by kernel_rfl) .nil

/- parchment/value.bytes -/
def value_bytes_n : Nat := 42
noncomputable def value_bytes (R : Rc42) (i1327 : Int) (b1328 : Bool) (i1329 : Int) (s1330 : List UInt8) (x1331 : AV) (x1332 : AV) (st1333 : St) : Option (List UInt8 × St) :=
  Option.bind (boxOp 25 (.agg [(.int .i64 i1327), (.bool b1328), (.int .i64 i1329), (.str s1330), x1331, x1332]) st1333) fun (x1336, st1335) =>
  Option.bind (shift x1336 0) fun x1338 =>
  Option.bind (loadAt C0.P st1335 3 x1338) fun x1340 =>
  Option.bind (avInt .i64 x1340) fun i1341 =>
  Option.bind (mkNew (buildSliceOp C0.P (C0.byref 42) 90 1 [(0, (.int .u8 (IntKind.wrap .u8 i1341)))]) st1335) fun (x1345, st1344) =>
  Option.bind (strOf st1344 x1345) fun s1347 =>
  Option.bind (loadAt C0.P st1344 3 x1338) fun x1349 =>
  Option.bind (avInt .i64 x1349) fun i1350 =>
  if (i1350 = 1) then
   Option.bind (shift x1336 1) fun x1354 =>
   Option.bind (loadAt C0.P st1344 4 x1354) fun x1356 =>
   Option.bind (avBool x1356) fun b1357 =>
   Option.bind (enc_Bool R.n b1357) fun s1359 =>
   Option.bind (catS s1347 s1359) fun s1362 =>
   some (s1362, st1344)
  else
   if (i1350 = 2) then
    Option.bind (shift x1336 2) fun x1365 =>
    Option.bind (loadAt C0.P st1344 2 x1365) fun x1367 =>
    Option.bind (avInt .i64 x1367) fun i1368 =>
    Option.bind (enc_Int R.n i1368 st1344) fun (s1370, st1372) =>
    Option.bind (catS s1347 s1370) fun s1374 =>
    some (s1374, st1372)
   else
    Option.bind (value_bytes_j11010111100 R i1350) fun b1382 =>
    Option.bind (value_bytes_c11010111101 R x1336 s1347 i1350 b1382) fun b1398 =>
    if b1398 = true then
     Option.bind (shift x1336 3) fun x1401 =>
     Option.bind (loadAt C0.P st1344 9 x1401) fun x1403 =>
     Option.bind (avStr x1403) fun s1404 =>
     Option.bind (enc_Text R.n s1404 st1344) fun (s1406, st1408) =>
     Option.bind (catS s1347 s1406) fun s1410 =>
     some (s1410, st1408)
    else
     Option.bind (value_bytes_j1101011111100 R i1350) fun b1418 =>
     Option.bind (value_bytes_c1101011111101 R x1336 s1347 i1350 b1418) fun b1434 =>
     Option.bind (value_bytes_c110101111111 R x1336 s1347 b1434 st1344) fun (s1650, st1651) =>
     some (s1650, st1651)
theorem value_bytes_ok (R : Rc42) (n : Nat) (hR : R.ok n) (i1327 : Int) (b1328 : Bool) (i1329 : Int) (s1330 : List UInt8) (x1331 : AV) (x1332 : AV) (st1333 : St) (r : List UInt8 × St) (h : value_bytes R i1327 b1328 i1329 s1330 x1331 x1332 st1333 = some r) :
    CallsTo (callK C0 ext0 R.n (n + 3)) false 42 [(.agg [(.int .i64 i1327), (.bool b1328), (.int .i64 i1329), (.str s1330), x1331, x1332])] st1333 (.str r.1) r.2 := by
  revert h
  unfold value_bytes
  refine bindE fun o h1334 => ?_
  obtain ⟨x1336, st1335⟩ := o
  refine bindE fun x1338 h1337 => ?_
  refine bindE fun x1340 h1339 => ?_
  refine bindE fun i1341 h1342 => ?_
  obtain rfl := avInt_ok h1342
  refine bindE fun o h1343 => ?_
  obtain ⟨x1345, st1344⟩ := o
  refine bindE fun s1347 h1346 => ?_
  refine bindE fun x1349 h1348 => ?_
  refine bindE fun i1350 h1351 => ?_
  obtain rfl := avInt_ok h1351
  refine iteE (fun h1352 => ?_) (fun h1352 => ?_)
  · refine bindE fun x1354 h1353 => ?_
    refine bindE fun x1356 h1355 => ?_
    refine bindE fun b1357 h1358 => ?_
    obtain rfl := avBool_ok h1358
    refine bindE fun s1359 h1360 => ?_
    refine bindE fun s1362 h1361 => ?_
    intro h
    obtain rfl := Option.some.inj h
    exact callO_ok (hs := [.eff x1336 st1335, .run 1, .val x1338, .val (.int .i64 i1341), .run 1, .eff x1345 st1344, .val (.str s1347), .run 1, .val x1338, .val (.int .i64 i1350), .into, .dec true, .run 1, .into, .run 1, .val x1354, .val (.bool b1357), .call (.str s1359) st1344, .val (.str s1362), .run 1]) (by kernel_rfl) (.cons (cat_ok h1361) <| .cons (enc_Bool_ok R.n (n + 1) b1357 st1344 _ h1360) <| .cons h1355 <| .cons h1353 <| .cons (beqT h1352) <| .cons h1348 <| .cons h1337 <| .cons (strOf_ok h1346) <| .cons h1343 <| .cons h1339 <| .cons h1337 <| .cons (box_ok h1334) .nil) (by kernel_rfl) (by kernel_rfl)
  · refine iteE (fun h1363 => ?_) (fun h1363 => ?_)
    · refine bindE fun x1365 h1364 => ?_
      refine bindE fun x1367 h1366 => ?_
      refine bindE fun i1368 h1369 => ?_
      obtain rfl := avInt_ok h1369
      refine bindE fun o h1371 => ?_
      obtain ⟨s1370, st1372⟩ := o
      refine bindE fun s1374 h1373 => ?_
      intro h
      obtain rfl := Option.some.inj h
      exact callO_ok (hs := [.eff x1336 st1335, .run 1, .val x1338, .val (.int .i64 i1341), .run 1, .eff x1345 st1344, .val (.str s1347), .run 1, .val x1338, .val (.int .i64 i1350), .into, .dec false, .run 1, .into, .dec true, .run 1, .into, .run 1, .val x1365, .val (.int .i64 i1368), .call (.str s1370) st1372, .val (.str s1374), .run 1]) (by kernel_rfl) (.cons (cat_ok h1373) <| .cons (enc_Int_ok R.n n i1368 st1344 _ h1371) <| .cons h1366 <| .cons h1364 <| .cons (beqT h1363) <| .cons (beqF h1352) <| .cons h1348 <| .cons h1337 <| .cons (strOf_ok h1346) <| .cons h1343 <| .cons h1339 <| .cons h1337 <| .cons (box_ok h1334) .nil) (by kernel_rfl) (by kernel_rfl)
    · refine bindE fun b1382 h1381 => ?_
      refine bindE fun b1398 h1397 => ?_
      refine iteE (fun h1399 => ?_) (fun h1399 => ?_)
      · subst h1399
        refine bindE fun x1401 h1400 => ?_
        refine bindE fun x1403 h1402 => ?_
        refine bindE fun s1404 h1405 => ?_
        obtain rfl := avStr_ok h1405
        refine bindE fun o h1407 => ?_
        obtain ⟨s1406, st1408⟩ := o
        refine bindE fun s1410 h1409 => ?_
        intro h
        obtain rfl := Option.some.inj h
        exact callO_ok (hs := [.eff x1336 st1335, .run 1, .val x1338, .val (.int .i64 i1341), .run 1, .eff x1345 st1344, .val (.str s1347), .run 1, .val x1338, .val (.int .i64 i1350), .into, .dec false, .run 1, .into, .dec false, .run 1, .into, .absG [12] .normal [(27, (.bool b1382))] st1344, .absC [1, 3, 12, 27] .normal [(27, (.bool true))] st1344, .into, .run 1, .val x1401, .val (.str s1404), .call (.str s1406) st1408, .val (.str s1410), .run 1]) (by kernel_rfl) (.cons (cat_ok h1409) <| .cons (enc_Text_ok R.n n s1404 st1344 _ h1407) <| .cons h1402 <| .cons h1400 <| .cons (value_bytes_c11010111101_ok R n hR x1336 s1347 i1350 b1382 st1344 _ h1397) <| .cons (value_bytes_j11010111100_ok R n hR i1350 st1344 _ h1381) <| .cons (beqF h1363) <| .cons (beqF h1352) <| .cons h1348 <| .cons h1337 <| .cons (strOf_ok h1346) <| .cons h1343 <| .cons h1339 <| .cons h1337 <| .cons (box_ok h1334) .nil) (by kernel_rfl) (by kernel_rfl)
      · obtain rfl := bF h1399
        refine bindE fun b1418 h1417 => ?_
        refine bindE fun b1434 h1433 => ?_
        refine bindE fun o h1649 => ?_
        obtain ⟨s1650, st1651⟩ := o
        intro h
        obtain rfl := Option.some.inj h
        exact callO_ok (hs := [.eff x1336 st1335, .run 1, .val x1338, .val (.int .i64 i1341), .run 1, .eff x1345 st1344, .val (.str s1347), .run 1, .val x1338, .val (.int .i64 i1350), .into, .dec false, .run 1, .into, .dec false, .run 1, .into, .absG [12] .normal [(27, (.bool b1382))] st1344, .absC [1, 3, 12, 27] .normal [(27, (.bool false))] st1344, .into, .absG [12] .normal [(35, (.bool b1418))] st1344, .absC [1, 3, 12, 35] .normal [(35, (.bool b1434))] st1344, .absC [1, 3, 35] .normal [(3, (.str s1650))] st1651, .run 2]) (by kernel_rfl) (.cons (value_bytes_c110101111111_ok R n hR x1336 s1347 b1434 st1344 _ h1649) <| .cons (value_bytes_c1101011111101_ok R n hR x1336 s1347 i1350 b1418 st1344 _ h1433) <| .cons (value_bytes_j1101011111100_ok R n hR i1350 st1344 _ h1417) <| .cons (value_bytes_c11010111101_ok R n hR x1336 s1347 i1350 b1382 st1344 _ h1397) <| .cons (value_bytes_j11010111100_ok R n hR i1350 st1344 _ h1381) <| .cons (beqF h1363) <| .cons (beqF h1352) <| .cons h1348 <| .cons h1337 <| .cons (strOf_ok h1346) <| .cons h1343 <| .cons h1339 <| .cons h1337 <| .cons (box_ok h1334) .nil) (by kernel_rfl) (by kernel_rfl)

noncomputable def rc42 (R : Nat) : Nat → Rc42
  | 0 => ⟨R, (fun _ _ _ _ _ _ _ => none)⟩
  | k + 1 => ⟨R, (fun a0 a1 a2 a3 a4 a5 st => value_bytes (rc42 R k) a0 a1 a2 a3 a4 a5 st)⟩
theorem rc42_n (R : Nat) : ∀ k, (rc42 R k).n = R
  | 0 => rfl
  | _ + 1 => rfl
theorem rc42_ok (R : Nat) : ∀ k n, 3 * k ≤ n → (rc42 R k).ok n
  | 0, n, _ => (fun _ _ _ _ _ _ _ _ _ _ h => nomatch h)
  | k + 1, n, hn => 
    fun m hm a0 a1 a2 a3 a4 a5 st r h => by
      obtain ⟨j, rfl⟩ : ∃ j, m = j + 3 := ⟨m - 3, by omega⟩
      have := value_bytes_ok (rc42 R k) j (rc42_ok R k j (by omega)) a0 a1 a2 a3 a4 a5 st r h
      rw [rc42_n] at this
      exact this
noncomputable def value_bytes_top (R : Nat) (a0 : Int) (a1 : Bool) (a2 : Int) (a3 : List UInt8) (a4 : AV) (a5 : AV) (st : St) : Option (List UInt8 × St) := value_bytes (rc42 R 4000) a0 a1 a2 a3 a4 a5 st
theorem value_bytes_top_ok (R n : Nat) (a0 : Int) (a1 : Bool) (a2 : Int) (a3 : List UInt8) (a4 : AV) (a5 : AV) (st : St) (r : List UInt8 × St) (h : value_bytes_top R a0 a1 a2 a3 a4 a5 st = some r) : CallsTo (callK C0 ext0 R (n + 12003)) false 42 [(.agg [.int .i64 a0, .bool a1, .int .i64 a2, .str a3, a4, a5])] st (.str r.1) r.2 := by
  have := value_bytes_ok (rc42 R 4000) (n + 12000) (rc42_ok R 4000 _ (by omega)) a0 a1 a2 a3 a4 a5 st r h
  rw [rc42_n] at this
  exact this

/- parchment/value.Check -/
def value_Check_n : Nat := 16
noncomputable def value_Check (R : Nat) (i1658 : Int) (b1659 : Bool) (i1660 : Int) (s1661 : List UInt8) (x1662 : AV) (x1663 : AV) (st1664 : St) : Option (Int × St) :=
  Option.bind (boxOp 25 (.agg [(.int .i64 i1658), (.bool b1659), (.int .i64 i1660), (.str s1661), x1662, x1663]) st1664) fun (x1667, st1666) =>
  Option.bind (loadAt C0.P st1666 25 x1667) fun x1669 =>
  Option.bind (de_Ai64_b_i64_s_a_aZ x1669) fun (i1670, b1671, i1672, s1673, x1674, x1675) =>
  Option.bind (value_check_top R i1670 b1671 i1672 s1673 x1674 x1675 1 st1666) fun (i1677, st1679) =>
  if (i1677 = 0) then
   Option.bind (loadAt C0.P st1679 25 x1667) fun x1682 =>
   Option.bind (de_Ai64_b_i64_s_a_aZ x1682) fun (i1683, b1684, i1685, s1686, x1687, x1688) =>
   Option.bind (value_bytes_top R i1683 b1684 i1685 s1686 x1687 x1688 st1679) fun (s1690, st1692) =>
   if ((List.length s1690 : Int) > 1024) then
    some (3, st1692)
   else
    some (0, st1692)
  else
   some (i1677, st1679)
theorem value_Check_ok (R n : Nat) (i1658 : Int) (b1659 : Bool) (i1660 : Int) (s1661 : List UInt8) (x1662 : AV) (x1663 : AV) (st1664 : St) (r : Int × St) (h : value_Check R i1658 b1659 i1660 s1661 x1662 x1663 st1664 = some r) :
    CallsTo (callK C0 ext0 R (n + 12004)) false 16 [(.agg [(.int .i64 i1658), (.bool b1659), (.int .i64 i1660), (.str s1661), x1662, x1663])] st1664 (.int .i64 r.1) r.2 := by
  revert h
  unfold value_Check
  refine bindE fun o h1665 => ?_
  obtain ⟨x1667, st1666⟩ := o
  refine bindE fun x1669 h1668 => ?_
  refine bindE fun o h1676 => ?_
  obtain ⟨i1670, b1671, i1672, s1673, x1674, x1675⟩ := o
  obtain rfl := de_Ai64_b_i64_s_a_aZ_ok h1676
  refine bindE fun o h1678 => ?_
  obtain ⟨i1677, st1679⟩ := o
  refine iteE (fun h1680 => ?_) (fun h1680 => ?_)
  · refine bindE fun x1682 h1681 => ?_
    refine bindE fun o h1689 => ?_
    obtain ⟨i1683, b1684, i1685, s1686, x1687, x1688⟩ := o
    obtain rfl := de_Ai64_b_i64_s_a_aZ_ok h1689
    refine bindE fun o h1691 => ?_
    obtain ⟨s1690, st1692⟩ := o
    refine iteE (fun h1693 => ?_) (fun h1693 => ?_)
    · intro h
      obtain rfl := Option.some.inj h
      exact callO_ok (hs := [.eff x1667 st1666, .run 1, .val (.agg [(.int .i64 i1670), (.bool b1671), (.int .i64 i1672), (.str s1673), x1674, x1675]), .call (.int .i64 i1677) st1679, .run 2, .dec false, .into, .val (.agg [(.int .i64 i1683), (.bool b1684), (.int .i64 i1685), (.str s1686), x1687, x1688]), .call (.str s1690) st1692, .run 1, .dec true, .into, .run 1]) (by kernel_rfl) (.cons (decide_eq_true h1693) <| .cons (value_bytes_top_ok R n i1683 b1684 i1685 s1686 x1687 x1688 st1679 _ h1691) <| .cons h1681 <| .cons (bneF h1680) <| .cons (value_check_top_ok R n i1670 b1671 i1672 s1673 x1674 x1675 1 st1666 _ h1678) <| .cons h1668 <| .cons (box_ok h1665) .nil) (by kernel_rfl) (by kernel_rfl)
    · intro h
      obtain rfl := Option.some.inj h
      exact callO_ok (hs := [.eff x1667 st1666, .run 1, .val (.agg [(.int .i64 i1670), (.bool b1671), (.int .i64 i1672), (.str s1673), x1674, x1675]), .call (.int .i64 i1677) st1679, .run 2, .dec false, .into, .val (.agg [(.int .i64 i1683), (.bool b1684), (.int .i64 i1685), (.str s1686), x1687, x1688]), .call (.str s1690) st1692, .run 1, .dec false, .into, .run 1]) (by kernel_rfl) (.cons (decide_eq_false h1693) <| .cons (value_bytes_top_ok R n i1683 b1684 i1685 s1686 x1687 x1688 st1679 _ h1691) <| .cons h1681 <| .cons (bneF h1680) <| .cons (value_check_top_ok R n i1670 b1671 i1672 s1673 x1674 x1675 1 st1666 _ h1678) <| .cons h1668 <| .cons (box_ok h1665) .nil) (by kernel_rfl) (by kernel_rfl)
  · intro h
    obtain rfl := Option.some.inj h
    exact callO_ok (hs := [.eff x1667 st1666, .run 1, .val (.agg [(.int .i64 i1670), (.bool b1671), (.int .i64 i1672), (.str s1673), x1674, x1675]), .call (.int .i64 i1677) st1679, .run 2, .dec true, .into, .run 2]) (by kernel_rfl) (.cons (bneT h1680) <| .cons (value_check_top_ok R n i1670 b1671 i1672 s1673 x1674 x1675 1 st1666 _ h1678) <| .cons h1668 <| .cons (box_ok h1665) .nil) (by kernel_rfl) (by kernel_rfl)

/- parchment/keys.text -/
def keys_text_n : Nat := 102
noncomputable def keys_text (R : Nat) (s1695 : List UInt8) (st1696 : St) : Option (List UInt8 × St) :=
  Option.bind (xRA R s1695 [0] [0, 255] st1696) fun (s1697, st1699) =>
  Option.bind (catS s1697 [0, 1]) fun s1701 =>
  some (s1701, st1699)
theorem keys_text_ok (R n : Nat) (s1695 : List UInt8) (st1696 : St) (r : List UInt8 × St) (h : keys_text R s1695 st1696 = some r) :
    CallsTo (callK C0 ext0 R (n + 2)) false 102 [(.str s1695)] st1696 (.str r.1) r.2 := by
  revert h
  unfold keys_text
  refine bindE fun o h1698 => ?_
  obtain ⟨s1697, st1699⟩ := o
  refine bindE fun s1701 h1700 => ?_
  intro h
  obtain rfl := Option.some.inj h
  exact callO_ok (hs := [.run 2, .call (.str s1697) st1699, .val (.str s1701), .run 1]) (by kernel_rfl) (.cons (cat_ok h1700) <| .cons (xRA_ok R n s1695 [0] [0, 255] st1696 _ h1698) .nil) (by kernel_rfl) (by kernel_rfl)

noncomputable def keys_Number_c110100110 (R : Nat) (i1733 : Int) (x1734 : AV) (i1735 : Int) (i1736 : Int) (st1737 : St) : Option (St) :=
  Option.bind (intOp .shr .u64 i1733 .i64 (IntKind.wrap .i64 (8 * i1736))) fun x1739 =>
  Option.bind (avInt .u64 x1739) fun i1740 =>
  Option.bind (indexAddrOp C0.P 90 x1734 (.int .i64 (IntKind.wrap .i64 (7 - i1736)))) fun x1743 =>
  Option.bind (storeAt C0.P st1737 5 x1743 (.int .u8 (IntKind.wrap .u8 i1740))) fun st1745 =>
  some st1745
theorem keys_Number_c110100110_ok (R n : Nat) (i1733 : Int) (x1734 : AV) (i1735 : Int) (i1736 : Int) (st1737 : St) (r : St) (h : keys_Number_c110100110 R i1733 x1734 i1735 i1736 st1737 = some r) :
    Leads 23 (execK C0 (callK C0 ext0 R n) 101 R none (codeAt C0.P 101 [1, 1, 0, 1, 0, 0, 1, 1, 0])) (modsOf (codeAt C0.P 101 [1, 1, 0, 1, 0, 0, 1, 1, 0])) [(0, (.int .u64 i1733)), (3, x1734), (7, (.int .i64 i1735)), (8, (.int .i64 i1736))] st1737 .normal [] r := by
  revert h
  unfold keys_Number_c110100110
  refine bindE fun x1739 h1738 => ?_
  refine bindE fun i1740 h1741 => ?_
  obtain rfl := avInt_ok h1741
  refine bindE fun x1743 h1742 => ?_
  refine bindE fun st1745 h1744 => ?_
  intro h
  obtain rfl := Option.some.inj h
  exact runO_ok (hs := [.into, .run 8, .val (.int .u64 i1740), .run 1, .val x1743, .eff AV.undef st1745]) (want := []) (by kernel_rfl) (.cons (sto_ok h1744) <| .cons h1742 <| .cons h1738 .nil)

noncomputable def keys_Number_l11010 (R : Nat) (i1748 : Int) (x1749 : AV) (i1750 : Int) : Nat → Int → St → Option ((St))
  | 0, _, _ => none
  | r + 1, i1751, st1752 =>
    if (i1751 < i1750) then
     Option.bind (keys_Number_c110100110 R i1748 x1749 i1750 i1751 st1752) fun st1755 =>
     keys_Number_l11010 R i1748 x1749 i1750 r (IntKind.wrap .i64 (i1751 + 1)) st1755
    else
     some st1752
noncomputable def keys_Number_l11010_x (o : (St)) : AExit × List (Nat × AV) × St := match o with
  | a0 => ((.exit 0), [], a0)
theorem keys_Number_l11010_ok (R n : Nat) (i1748 : Int) (x1749 : AV) (i1750 : Int) : ∀ (r : Nat) (i1751 : Int) (st1752 : St) (o : (St)), keys_Number_l11010 R i1748 x1749 i1750 r i1751 st1752 = some o →
    Leads 23 (loopK (fun fr k => execK C0 (callK C0 ext0 R n) 101 R none (codeAt C0.P 101 [1, 1, 0, 1, 0, 0]) fr k) r) (modsOf (codeAt C0.P 101 [1, 1, 0, 1, 0, 0])) [(0, (.int .u64 i1748)), (3, x1749), (7, (.int .i64 i1750)), (8, (.int .i64 i1751))] st1752 (keys_Number_l11010_x o).1 (keys_Number_l11010_x o).2.1 (keys_Number_l11010_x o).2.2 := by
  intro r
  induction r with
  | zero => intro i1751 st1752 o h; exact nomatch h
  | succ r ih =>
    intro i1751 st1752 o
    unfold keys_Number_l11010
    refine iteE (fun h1753 => ?_) (fun h1753 => ?_)
    · refine bindE fun st1755 h1754 => ?_
      intro h
      exact loop_more (runO_ok (hs := [.dec true, .into, .absB [0, 3, 7, 8] .normal [] st1755, .run 2]) (want := [0, 3, 7, 8]) (by kernel_rfl) (.cons (keys_Number_c110100110_ok R n i1748 x1749 i1750 i1751 st1752 _ h1754) <| .cons (decide_eq_true h1753) .nil)) (ih (IntKind.wrap .i64 (i1751 + 1)) st1755 _ h)
    · intro h
      obtain rfl := Option.some.inj h
      exact loop_done (runO_ok (hs := [.dec false, .into]) (want := []) (by kernel_rfl) (.cons (decide_eq_false h1753) .nil)) (by kernel_rfl)

noncomputable def keys_Number_c1101 (R : Nat) (i1758 : Int) (x1759 : AV) (i1760 : Int) (st1761 : St) : Option (St) :=
  Option.bind (keys_Number_l11010 R i1758 x1759 i1760 R 0 st1761) fun st1763 =>
  some st1763
theorem keys_Number_c1101_ok (R n : Nat) (i1758 : Int) (x1759 : AV) (i1760 : Int) (st1761 : St) (r : St) (h : keys_Number_c1101 R i1758 x1759 i1760 st1761 = some r) :
    Leads 23 (execK C0 (callK C0 ext0 R n) 101 R none (codeAt C0.P 101 [1, 1, 0, 1])) (modsOf (codeAt C0.P 101 [1, 1, 0, 1])) [(0, (.int .u64 i1758)), (3, x1759), (7, (.int .i64 i1760)), (8, (.int .i64 0))] st1761 .normal [] r := by
  revert h
  unfold keys_Number_c1101
  refine bindE fun st1763 h1762 => ?_
  intro h
  obtain rfl := Option.some.inj h
  exact runO_ok (hs := [.into, .abs [0, 3, 7, 8] (.exit 0) [] st1763]) (want := []) (by kernel_rfl) (.cons (loop_leads (keys_Number_l11010_ok R n i1758 x1759 i1760 R 0 st1761 _ h1762)) .nil)

/- parchment/keys.Number -/
def keys_Number_n : Nat := 101
noncomputable def keys_Number (R : Nat) (i1703 : Int) (st1704 : St) : Option (List UInt8 × St) :=
  Option.bind (mkNew (makeSliceOp C0.P 90 (.int .i64 8) (.int .i64 8)) st1704) fun (x1707, st1706) =>
  Option.bind (lenOf x1707) fun n1709 =>
  Option.bind (keys_Number_c1101 R i1703 x1707 (n1709 : Int) st1706) fun st1765 =>
  Option.bind (strOf st1765 x1707) fun s1767 =>
  some (s1767, st1765)
theorem keys_Number_ok (R n : Nat) (i1703 : Int) (st1704 : St) (r : List UInt8 × St) (h : keys_Number R i1703 st1704 = some r) :
    CallsTo (callK C0 ext0 R (n + 1)) false 101 [(.int .u64 i1703)] st1704 (.str r.1) r.2 := by
  revert h
  unfold keys_Number
  refine bindE fun o h1705 => ?_
  obtain ⟨x1707, st1706⟩ := o
  refine bindE fun n1709 h1708 => ?_
  refine bindE fun st1765 h1764 => ?_
  refine bindE fun s1767 h1766 => ?_
  intro h
  obtain rfl := Option.some.inj h
  exact callO_ok (hs := [.run 1, .eff x1707 st1706, .run 2, .val (.int .i64 (n1709 : Int)), .run 1, .absB [0, 3, 7, 8] .normal [] st1765, .run 1, .val (.str s1767), .run 1]) (by kernel_rfl) (.cons (strOf_ok h1766) <| .cons (keys_Number_c1101_ok R n i1703 x1707 (n1709 : Int) st1706 _ h1764) <| .cons (len_ok (P := C0.P) (t := 90) (e := 5) (by kernel_rfl) h1708) <| .cons h1705 .nil) (by kernel_rfl) (by kernel_rfl)

noncomputable def keys_Next_j1100000 (R : Nat) (x1790 : AV) (st1791 : St) : Option (Bool × St) :=
  Option.bind (lenOf x1790) fun n1793 =>
  if ((n1793 : Int) > 0) then
   Option.bind (indexAddrOp C0.P 90 x1790 (.int .i64 (IntKind.wrap .i64 ((n1793 : Int) - 1)))) fun x1796 =>
   Option.bind (loadAt C0.P st1791 5 x1796) fun x1798 =>
   Option.bind (avInt .u8 x1798) fun i1799 =>
   if (i1799 = 255) then
    some (true, st1791)
   else
    some (false, st1791)
  else
   some (false, st1791)
theorem keys_Next_j1100000_ok (R n : Nat) (x1790 : AV) (st1791 : St) (r : Bool × St) (h : keys_Next_j1100000 R x1790 st1791 = some r) :
    Leads 36 (execK C0 (callK C0 ext0 R n) 58 R none (codeAt C0.P 58 [1, 1, 0, 0, 0, 0, 0])) (modsOf (codeAt C0.P 58 [1, 1, 0, 0, 0, 0, 0])) [(3, x1790)] st1791 .normal [(17, .bool r.1)] r.2 := by
  revert h
  unfold keys_Next_j1100000
  refine bindE fun n1793 h1792 => ?_
  refine iteE (fun h1794 => ?_) (fun h1794 => ?_)
  · refine bindE fun x1796 h1795 => ?_
    refine bindE fun x1798 h1797 => ?_
    refine bindE fun i1799 h1800 => ?_
    obtain rfl := avInt_ok h1800
    refine iteE (fun h1801 => ?_) (fun h1801 => ?_)
    · intro h
      obtain rfl := Option.some.inj h
      exact runO_ok (hs := [.run 1, .val (.int .i64 (n1793 : Int)), .dec true, .run 3, .val (.int .i64 (n1793 : Int)), .run 1, .val x1796, .val (.int .u8 i1799), .dec true, .run 1]) (want := [17]) (by kernel_rfl) (.cons (beqT h1801) <| .cons h1797 <| .cons h1795 <| .cons (len_ok (P := C0.P) (t := 90) (e := 5) (by kernel_rfl) h1792) <| .cons (decide_eq_true h1794) <| .cons (len_ok (P := C0.P) (t := 90) (e := 5) (by kernel_rfl) h1792) .nil)
    · intro h
      obtain rfl := Option.some.inj h
      exact runO_ok (hs := [.run 1, .val (.int .i64 (n1793 : Int)), .dec true, .run 3, .val (.int .i64 (n1793 : Int)), .run 1, .val x1796, .val (.int .u8 i1799), .dec false, .run 1]) (want := [17]) (by kernel_rfl) (.cons (beqF h1801) <| .cons h1797 <| .cons h1795 <| .cons (len_ok (P := C0.P) (t := 90) (e := 5) (by kernel_rfl) h1792) <| .cons (decide_eq_true h1794) <| .cons (len_ok (P := C0.P) (t := 90) (e := 5) (by kernel_rfl) h1792) .nil)
  · intro h
    obtain rfl := Option.some.inj h
    exact runO_ok (hs := [.run 1, .val (.int .i64 (n1793 : Int)), .dec false, .run 2]) (want := [17]) (by kernel_rfl) (.cons (decide_eq_false h1794) <| .cons (len_ok (P := C0.P) (t := 90) (e := 5) (by kernel_rfl) h1792) .nil)

noncomputable def keys_Next_l1100 (R : Nat) : Nat → AV → St → Option ((AV × St))
  | 0, _, _ => none
  | r + 1, x1810, st1811 =>
    Option.bind (keys_Next_j1100000 R x1810 st1811) fun (b1813, st1814) =>
    if b1813 = true then
     Option.bind (lenOf x1810) fun n1817 =>
     Option.bind (sliceSt C0.P st1814 90 x1810 none (some (.int .i64 (IntKind.wrap .i64 ((n1817 : Int) - 1)))) none) fun x1819 =>
     keys_Next_l1100 R r x1819 st1814
    else
     some (x1810, st1814)
noncomputable def keys_Next_l1100_x (o : (AV × St)) : AExit × List (Nat × AV) × St := match o with
  | (a0, a1) => ((.exit 0), [(3, a0)], a1)
theorem keys_Next_l1100_ok (R n : Nat) : ∀ (r : Nat) (x1810 : AV) (st1811 : St) (o : (AV × St)), keys_Next_l1100 R r x1810 st1811 = some o →
    Leads 36 (loopK (fun fr k => execK C0 (callK C0 ext0 R n) 58 R none (codeAt C0.P 58 [1, 1, 0, 0, 0]) fr k) r) (modsOf (codeAt C0.P 58 [1, 1, 0, 0, 0])) [(3, x1810)] st1811 (keys_Next_l1100_x o).1 (keys_Next_l1100_x o).2.1 (keys_Next_l1100_x o).2.2 := by
  intro r
  induction r with
  | zero => intro x1810 st1811 o h; exact nomatch h
  | succ r ih =>
    intro x1810 st1811 o
    unfold keys_Next_l1100
    refine bindE fun o h1812 => ?_
    obtain ⟨b1813, st1814⟩ := o
    refine iteE (fun h1815 => ?_) (fun h1815 => ?_)
    · subst h1815
      refine bindE fun n1817 h1816 => ?_
      refine bindE fun x1819 h1818 => ?_
      intro h
      exact loop_more (runO_ok (hs := [.absG [3] .normal [(17, (.bool true))] st1814, .into, .into, .run 2, .val (.int .i64 (n1817 : Int)), .run 1, .val x1819, .run 1]) (want := [3]) (by kernel_rfl) (.cons h1818 <| .cons (len_ok (P := C0.P) (t := 90) (e := 5) (by kernel_rfl) h1816) <| .cons (keys_Next_j1100000_ok R n x1810 st1811 _ h1812) .nil)) (ih x1819 st1814 _ h)
    · obtain rfl := bF h1815
      intro h
      obtain rfl := Option.some.inj h
      exact loop_done (runO_ok (hs := [.absG [3] .normal [(17, (.bool false))] st1814, .into]) (want := [3]) (by kernel_rfl) (.cons (keys_Next_j1100000_ok R n x1810 st1811 _ h1812) .nil)) (by kernel_rfl)

noncomputable def keys_Next_c110 (R : Nat) (x1823 : AV) (st1824 : St) : Option (AV × St) :=
  Option.bind (keys_Next_l1100 R R x1823 st1824) fun (x1826, st1827) =>
  some (x1826, st1827)
theorem keys_Next_c110_ok (R n : Nat) (x1823 : AV) (st1824 : St) (r : AV × St) (h : keys_Next_c110 R x1823 st1824 = some r) :
    Leads 36 (execK C0 (callK C0 ext0 R n) 58 R none (codeAt C0.P 58 [1, 1, 0])) (modsOf (codeAt C0.P 58 [1, 1, 0])) [(3, x1823)] st1824 .normal [(3, r.1)] r.2 := by
  revert h
  unfold keys_Next_c110
  refine bindE fun o h1825 => ?_
  obtain ⟨x1826, st1827⟩ := o
  intro h
  obtain rfl := Option.some.inj h
  exact runO_ok (hs := [.into, .abs [3] (.exit 0) [(3, x1826)] st1827]) (want := [3]) (by kernel_rfl) (.cons (loop_leads (keys_Next_l1100_ok R n R x1823 st1824 _ h1825)) .nil)

noncomputable def keys_Next_j11100 (R : Nat) (x1836 : AV) : Option (Bool) :=
  Option.bind (lenOf x1836) fun n1839 =>
  if ((n1839 : Int) > 0) then
   some true
  else
   some false
theorem keys_Next_j11100_ok (R n : Nat) (x1836 : AV) (st1837 : St) (r : Bool) (h : keys_Next_j11100 R x1836 = some r) :
    Leads 36 (execK C0 (callK C0 ext0 R n) 58 R none (codeAt C0.P 58 [1, 1, 1, 0, 0])) (modsOf (codeAt C0.P 58 [1, 1, 1, 0, 0])) [(3, x1836)] st1837 .normal [(25, .bool r)] st1837 := by
  revert h
  unfold keys_Next_j11100
  refine bindE fun n1839 h1838 => ?_
  refine iteE (fun h1840 => ?_) (fun h1840 => ?_)
  · intro h
    obtain rfl := Option.some.inj h
    exact runO_ok (hs := [.run 1, .val (.int .i64 (n1839 : Int)), .dec true]) (want := [25]) (by kernel_rfl) (.cons (decide_eq_true h1840) <| .cons (len_ok (P := C0.P) (t := 90) (e := 5) (by kernel_rfl) h1838) .nil)
  · intro h
    obtain rfl := Option.some.inj h
    exact runO_ok (hs := [.run 1, .val (.int .i64 (n1839 : Int)), .dec false]) (want := [25]) (by kernel_rfl) (.cons (decide_eq_false h1840) <| .cons (len_ok (P := C0.P) (t := 90) (e := 5) (by kernel_rfl) h1838) .nil)

noncomputable def keys_Next_c11101 (R : Nat) (x1857 : AV) (b1858 : Bool) (st1859 : St) : Option (St) :=
  if b1858 = true then
   Option.bind (lenOf x1857) fun n1862 =>
   Option.bind (indexAddrOp C0.P 90 x1857 (.int .i64 (IntKind.wrap .i64 ((n1862 : Int) - 1)))) fun x1864 =>
   Option.bind (loadAt C0.P st1859 5 x1864) fun x1866 =>
   Option.bind (avInt .u8 x1866) fun i1867 =>
   Option.bind (storeAt C0.P st1859 5 x1864 (.int .u8 (IntKind.wrap .u8 (i1867 + 1)))) fun st1870 =>
   some st1870
  else
   some st1859
theorem keys_Next_c11101_ok (R n : Nat) (x1857 : AV) (b1858 : Bool) (st1859 : St) (r : St) (h : keys_Next_c11101 R x1857 b1858 st1859 = some r) :
    Leads 36 (execK C0 (callK C0 ext0 R n) 58 R none (codeAt C0.P 58 [1, 1, 1, 0, 1])) (modsOf (codeAt C0.P 58 [1, 1, 1, 0, 1])) [(3, x1857), (25, (.bool b1858))] st1859 .normal [] r := by
  revert h
  unfold keys_Next_c11101
  refine iteE (fun h1860 => ?_) (fun h1860 => ?_)
  · subst h1860
    refine bindE fun n1862 h1861 => ?_
    refine bindE fun x1864 h1863 => ?_
    refine bindE fun x1866 h1865 => ?_
    refine bindE fun i1867 h1868 => ?_
    obtain rfl := avInt_ok h1868
    refine bindE fun st1870 h1869 => ?_
    intro h
    obtain rfl := Option.some.inj h
    exact runO_ok (hs := [.into, .run 2, .val (.int .i64 (n1862 : Int)), .run 1, .val x1864, .val (.int .u8 i1867), .run 1, .val x1864, .eff AV.undef st1870]) (want := []) (by kernel_rfl) (.cons (sto_ok h1869) <| .cons h1863 <| .cons h1865 <| .cons h1863 <| .cons (len_ok (P := C0.P) (t := 90) (e := 5) (by kernel_rfl) h1861) .nil)
  · obtain rfl := bF h1860
    intro h
    obtain rfl := Option.some.inj h
    exact runO_ok (hs := [.into]) (want := []) (by kernel_rfl) .nil

/- parchment/keys.Next -/
def keys_Next_n : Nat := 58
noncomputable def keys_Next (R : Nat) (s1769 : List UInt8) (st1770 : St) : Option (List UInt8 × St) :=
  Option.bind (mkNew (bytesNew 5 s1769) st1770) fun (x1773, st1772) =>
  Option.bind (keys_Next_c110 R x1773 st1772) fun (x1829, st1830) =>
  Option.bind (keys_Next_j11100 R x1829) fun b1842 =>
  Option.bind (keys_Next_c11101 R x1829 b1842 st1830) fun st1872 =>
  Option.bind (strOf st1872 x1829) fun s1874 =>
  some (s1874, st1872)
theorem keys_Next_ok (R n : Nat) (s1769 : List UInt8) (st1770 : St) (r : List UInt8 × St) (h : keys_Next R s1769 st1770 = some r) :
    CallsTo (callK C0 ext0 R (n + 1)) false 58 [(.str s1769)] st1770 (.str r.1) r.2 := by
  revert h
  unfold keys_Next
  refine bindE fun o h1771 => ?_
  obtain ⟨x1773, st1772⟩ := o
  refine bindE fun o h1828 => ?_
  obtain ⟨x1829, st1830⟩ := o
  refine bindE fun b1842 h1841 => ?_
  refine bindE fun st1872 h1871 => ?_
  refine bindE fun s1874 h1873 => ?_
  intro h
  obtain rfl := Option.some.inj h
  exact callO_ok (hs := [.run 2, .eff x1773 st1772, .run 1, .absB [3] .normal [(3, x1829)] st1830, .absG [3] .normal [(25, (.bool b1842))] st1830, .absC [3, 25] .normal [] st1872, .run 1, .val (.str s1874), .run 1]) (by kernel_rfl) (.cons (strOf_ok h1873) <| .cons (keys_Next_c11101_ok R n x1829 b1842 st1830 _ h1871) <| .cons (keys_Next_j11100_ok R n x1829 st1830 _ h1841) <| .cons (keys_Next_c110_ok R n x1773 st1772 _ h1828) <| .cons h1771 .nil) (by kernel_rfl) (by kernel_rfl)

end
end Go.Proofs.YthodfojhbbendaaGreatDoor
