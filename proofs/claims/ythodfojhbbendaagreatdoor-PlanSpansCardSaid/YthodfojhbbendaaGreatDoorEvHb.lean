/- Symbolic walks: operations by their operands' values answer alike. -/
import Derived.Test.YthodfojhbbendaaGreatDoorEvHa
set_option linter.all false
namespace Go.Ev
section
variable {ts vs : List AV} {P : Program}

theorem eqOne_rn (d : TypeDesc) (i j : Nat) (x y : Operand) (a b : AV) : eqOne d (rnX i x) (rnX j y) a b = eqOne d x y a b := by
  cases x <;> cases y <;> rfl
theorem binOp_rn (P : Program) (op : BinOp) (t : TypeId) (x y : Operand) (a b : AV) : binOpV P op t (rnX 0 x) (rnX 1 y) a b = binOpV P op t x y a b := by
  unfold binOpV
  split <;> first | rfl | (simp only [eqOne_rn])

theorem one_inv {x : Operand} (h : opnds ts [x] = some vs) : ∃ a, vs = [a] ∧ opnd ts x = some a := by
  obtain ⟨a, vs', rfl, h1, h2⟩ := opnds_cons h
  obtain rfl := opnds_nil h2
  exact ⟨a, rfl, h1⟩
theorem two_inv {x y : Operand} (h : opnds ts [x, y] = some vs) : ∃ a b, vs = [a, b] ∧ opnd ts x = some a ∧ opnd ts y = some b := by
  obtain ⟨a, vs', rfl, h1, h2⟩ := opnds_cons h
  obtain ⟨b, rfl, h3⟩ := one_inv h2
  exact ⟨a, b, rfl, h1, h3⟩
theorem three_inv {x y z : Operand} (h : opnds ts [x, y, z] = some vs) : ∃ a b c, vs = [a, b, c] ∧ opnd ts x = some a ∧ opnd ts y = some b ∧ opnd ts z = some c := by
  obtain ⟨a, vs', rfl, h1, h2⟩ := opnds_cons h
  obtain ⟨b, c, rfl, h3, h4⟩ := two_inv h2
  exact ⟨a, b, c, rfl, h1, h3, h4⟩

theorem opnds_rn1 : ∀ {xs : List Operand} {vs : List AV} (post : List AV) (h : opnds ts xs = some vs), opnds (vs ++ post) (rnXs 0 xs) = some vs := by
  have key : ∀ {xs : List Operand} {vs : List AV} (pre post : List AV), opnds ts xs = some vs → opnds (pre ++ vs ++ post) (rnXs pre.length xs) = some vs := by
    intro xs
    induction xs with
    | nil => intro vs pre post h; rw [opnds_nil h]; rfl
    | cons x xs ih =>
      intro vs pre post h
      obtain ⟨v, vs', rfl, h1, h2⟩ := opnds_cons h
      have h3 := ih (pre ++ [v]) post h2
      have h4 := opnd_rn h1 pre (vs' ++ post)
      simp only [List.append_assoc, List.cons_append, List.nil_append, List.length_append, List.length_cons, List.length_nil, Nat.zero_add] at h3 h4 ⊢
      simp only [rnXs, opnds, h4, h3, Option.bind_some]
  intro xs vs post h
  exact key [] post h
theorem rnPs_snd : ∀ (ps : List (Nat × Operand)) (i : Nat), (rnPs i ps).map (·.2) = rnXs i (ps.map (·.2))
  | [], _ => rfl
  | (j, x) :: ps, i => by simp [rnPs, rnXs, rnPs_snd ps (i + 1)]

theorem rnXs_append : ∀ (xs ys : List Operand) (i : Nat), rnXs i (xs ++ ys) = rnXs i xs ++ rnXs (i + xs.length) ys
  | [], _, _ => by simp [rnXs]
  | x :: xs, ys, i => by simp [rnXs, rnXs_append xs ys (i + 1), Nat.add_assoc, Nat.add_comm 1]
theorem rnO_toList (x : Option Operand) (i : Nat) : (rnO i x).toList = rnXs i x.toList := by cases x <;> rfl
theorem rnO_toArray (x : Option Operand) (i : Nat) : (rnO i x).toArray.toList = rnXs i x.toArray.toList := by cases x <;> rfl
theorem nO_len (x : Option Operand) : nO x = x.toArray.toList.length := by cases x <;> rfl

theorem operands_rnXs {op : Op} (hk : rnOk op = true) : (rnOp op).operands.toList = rnXs 0 op.operands.toList := by
  cases op with
  | call c =>
    obtain ⟨callee, args, tys⟩ := c
    cases callee with
    | builtin b => simp [rnOp, Op.operands, Call.operands]
    | _ => cases hk
  | build t ps => simp [rnOp, Op.operands, rnPs_snd]
  | buildSlice t n ps => simp [rnOp, Op.operands, rnPs_snd]
  | slice t x l h m =>
    simp only [rnOp, Op.operands, Array.toList_append, rnO_toArray, rnXs_append, List.length_append, nO_len]
    simp [rnXs, Nat.add_assoc]
  | makeFunc fn a b => simp [rnOp, Op.operands, rnXs_append]
  | makeMap t r =>
    cases r with
    | none => rfl
    | some x => cases hk
  | _ => first | rfl | cases hk

theorem operands_rn {op : Op} (hk : rnOk op = true) (h : opnds ts op.operands.toList = some vs) : opnds vs (rnOp op).operands.toList = some vs := by
  rw [operands_rnXs hk]
  exact opnds_rn [] h

theorem opKind_rn {op : Op} (hk : rnOk op = true) : opKind P (rnOp op) = opKind P op := by
  cases op with
  | call c =>
    obtain ⟨callee, args, tys⟩ := c
    cases callee with
    | builtin b => cases b <;> rfl
    | _ => cases hk
  | _ => first | rfl | cases hk

theorem pureOp_rn {op : Op} (hk : rnOk op = true) (h : opnds ts op.operands.toList = some vs) : pureOp P vs (rnOp op) = pureOp P ts op := by
  cases op with
  | move x =>
    obtain ⟨a, rfl, h1⟩ := one_inv h
    simp only [rnOp, pureOp, opnd_rn0 h1, h1]
  | assign x =>
    obtain ⟨a, rfl, h1⟩ := one_inv h
    simp only [rnOp, pureOp, opnd_rn0 h1, h1]
  | pick c x y =>
    obtain ⟨a, b, c, rfl, h1, h2, h3⟩ := three_inv h
    simp only [rnOp, pureOp, opnd_rn0 h1, opnd_rn1 h2, opnd_rn2 h3, h1, h2, h3]
  | build t ps =>
    have := parts_rn (ps := ps.toList) [] (by simpa [Op.operands] using h)
    simp only [List.nil_append, List.length_nil] at this
    simp only [rnOp, pureOp, this]
  | nilCheck x =>
    obtain ⟨a, rfl, h1⟩ := one_inv h
    simp only [rnOp, pureOp, opnd_rn0 h1, h1]
  | binOp op t x y u =>
    obtain ⟨a, b, rfl, h1, h2⟩ := two_inv h
    simp only [rnOp, pureOp, opnd_rn0 h1, opnd_rn1 h2, h1, h2, Option.bind_some]
    exact binOp_rn P op t x y a b
  | unOp op t x =>
    obtain ⟨a, rfl, h1⟩ := one_inv h
    simp only [rnOp, pureOp, opnd_rn0 h1, h1]
  | convert s d x =>
    obtain ⟨a, rfl, h1⟩ := one_inv h
    simp only [rnOp, pureOp, opnd_rn0 h1, h1]
  | makeInterface t x =>
    obtain ⟨a, rfl, h1⟩ := one_inv h
    simp only [rnOp, pureOp, opnd_rn0 h1, h1]
  | makeFunc fn a b =>
    simp only [Op.operands, Array.toList_append] at h
    obtain ⟨as, bs, rfl, h1, h2⟩ := opnds_append h
    have k1 := opnds_rn1 bs h1
    have k2 := opnds_rn as h2
    rw [opnds_len h1] at k2
    simp only [rnOp, pureOp, h1, h2, k1, k2]
  | slice t x l hi m =>
    simp only [Op.operands, Array.toList_append, List.append_assoc] at h
    obtain ⟨as, r, rfl, h1, h2⟩ := opnds_append h
    obtain ⟨bs, r, rfl, h3, h4⟩ := opnds_append h2
    obtain ⟨cs, ds, rfl, h5, h6⟩ := opnds_append h4
    obtain ⟨a, rfl, h7⟩ := one_inv h1
    have e1 : (Option.toArray l).toList = l.toList := by cases l <;> rfl
    have e2 : (Option.toArray hi).toList = hi.toList := by cases hi <;> rfl
    have e3 : (Option.toArray m).toList = m.toList := by cases m <;> rfl
    rw [e1] at h3
    rw [e2] at h5
    rw [e3] at h6
    have k1 := optV_rn [a] h3 (cs ++ ds)
    have k2 := optV_rn ([a] ++ bs) h5 ds
    have k3 := optV_rn ([a] ++ bs ++ cs) h6 []
    have l1 : bs.length = nO l := by rw [opnds_len h3]; cases l <;> rfl
    have l2 : cs.length = nO hi := by rw [opnds_len h5]; cases hi <;> rfl
    simp only [List.length_append, List.length_cons, List.length_nil, Nat.zero_add, l1, l2, List.append_assoc, List.append_nil] at k1 k2 k3
    rw [← Nat.add_assoc] at k3
    simp only [rnOp, pureOp, List.append_assoc, k1, k2, k3]
    have := opnd_rn0 h7 (bs ++ (cs ++ ds))
    simp only [List.singleton_append, this, h7]
  | fieldAddr t x i =>
    obtain ⟨a, rfl, h1⟩ := one_inv h
    simp only [rnOp, pureOp, opnd_rn0 h1, h1]
  | field t x i =>
    obtain ⟨a, rfl, h1⟩ := one_inv h
    simp only [rnOp, pureOp, opnd_rn0 h1, h1]
  | indexAddr t x i =>
    obtain ⟨a, b, rfl, h1, h2⟩ := two_inv h
    simp only [rnOp, pureOp, opnd_rn0 h1, opnd_rn1 h2, h1, h2]
  | index t x i =>
    obtain ⟨a, b, rfl, h1, h2⟩ := two_inv h
    simp only [rnOp, pureOp, opnd_rn0 h1, opnd_rn1 h2, h1, h2]
  | extract x i =>
    obtain ⟨a, rfl, h1⟩ := one_inv h
    simp only [rnOp, pureOp, opnd_rn0 h1, h1]
  | typeAssert x s t ok =>
    obtain ⟨a, rfl, h1⟩ := one_inv h
    simp only [rnOp, pureOp, opnd_rn0 h1, h1]
  | call c =>
    obtain ⟨callee, args, tys⟩ := c
    cases callee with
    | builtin b =>
      have h0 : opnds ts args.toList = some vs := by simpa [Op.operands, Call.operands] using h
      have h1 := opnds_rn [] h0
      simp only [List.nil_append, List.length_nil] at h1
      cases b <;> simp only [rnOp, pureOp, h1, h0]
    | _ => cases hk
  | _ => first | rfl | cases hk

theorem mkOp_rn {op : Op} {b : Bool} (hk : rnOk op = true) (h : opnds ts op.operands.toList = some vs) : mkOp P b vs (rnOp op) = mkOp P b ts op := by
  cases op with
  | box t x =>
    obtain ⟨a, rfl, h1⟩ := one_inv h
    simp only [rnOp, mkOp, opnd_rn0 h1, h1]
  | buildSlice t n ps =>
    have := parts_rn (ps := ps.toList) [] (by simpa [Op.operands] using h)
    simp only [List.nil_append, List.length_nil] at this
    simp only [rnOp, mkOp, this]
  | makeSlice t l c =>
    obtain ⟨a, b, rfl, h1, h2⟩ := two_inv h
    simp only [rnOp, mkOp, opnd_rn0 h1, opnd_rn1 h2, h1, h2]
  | convert s d x =>
    obtain ⟨a, rfl, h1⟩ := one_inv h
    simp only [rnOp, mkOp, opnd_rn0 h1, h1]
  | makeMap t r =>
    cases r with
    | none => rfl
    | some x => cases hk
  | call c =>
    obtain ⟨callee, args, tys⟩ := c
    cases callee with
    | builtin b => rfl
    | _ => cases hk
  | _ => first | rfl | cases hk

theorem takeO_rn (i : Nat) (x : Option Operand) (l : List AV) : takeO (rnO i x) l = takeO x l := by cases x <;> cases l <;> rfl
theorem readV_rn {op : Op} {st : St} (hk : rnOk op = true) : readV P st (rnOp op) vs = readV P st op vs := by
  cases op with
  | slice t x l h m =>
    cases vs with
    | nil => rfl
    | cons v vs => simp only [rnOp, readV, takeO_rn]
  | call c =>
    obtain ⟨callee, args, tys⟩ := c
    cases callee with
    | builtin b => cases b <;> first | rfl | (rcases vs with _ | ⟨a, _ | ⟨b, vs⟩⟩ <;> rfl)
    | _ => cases hk
  | _ => first | (cases hk; done) | (rcases vs with _ | ⟨a, _ | ⟨b, _ | ⟨c, vs⟩⟩⟩ <;> rfl)

theorem effOp_rn {op : Op} {b : Bool} {st : St} (hk : rnOk op = true) (h : opnds ts op.operands.toList = some vs) : effOp P b vs st (rnOp op) = effOp P b ts st op := by
  cases op with
  | store t x y =>
    obtain ⟨a, b, rfl, h1, h2⟩ := two_inv h
    simp only [rnOp, effOp, opnd_rn0 h1, opnd_rn1 h2, h1, h2]
  | mapUpdate t x y z =>
    obtain ⟨a, b, c, rfl, h1, h2, h3⟩ := three_inv h
    simp only [rnOp, effOp, opnd_rn0 h1, opnd_rn1 h2, opnd_rn2 h3, h1, h2, h3]
  | insert t x y z =>
    obtain ⟨a, b, c, rfl, h1, h2, h3⟩ := three_inv h
    simp only [rnOp, effOp, opnd_rn0 h1, opnd_rn1 h2, opnd_rn2 h3, h1, h2, h3]
  | range t x =>
    obtain ⟨a, rfl, h1⟩ := one_inv h
    simp only [rnOp, effOp, opnd_rn0 h1, h1]
  | entry x =>
    obtain ⟨a, rfl, h1⟩ := one_inv h
    simp only [rnOp, effOp, opnd_rn0 h1, h1]
  | call c =>
    obtain ⟨callee, args, tys⟩ := c
    cases callee with
    | builtin b =>
      have h0 : opnds ts args.toList = some vs := by simpa [Op.operands, Call.operands] using h
      have h1 := opnds_rn [] h0
      simp only [List.nil_append, List.length_nil] at h1
      cases b <;> simp only [rnOp, effOp, h1, h0]
    | _ => cases hk
  | makeMap t r =>
    cases r with
    | none => rfl
    | some x => cases hk
  | _ => first | rfl | cases hk

theorem aop_rn {C : Cfg} {f : FuncId} {st : St} {o : Oper} (hk : rnOk o.op = true) (h : opnds ts o.op.operands.toList = some vs) :
    aop C f vs st { o with op := rnOp o.op } = aop C f ts st o := by
  unfold aop
  simp only [opKind_rn hk]
  cases opKind C.P o.op with
  | pure => simp only [pureOp_rn hk h]
  | load => simp only [operands_rn hk h, h, Option.bind_some, readV_rn hk]
  | mk => simp only [mkOp_rn hk h]
  | eff => simp only [effOp_rn hk h]
end
end Go.Ev
