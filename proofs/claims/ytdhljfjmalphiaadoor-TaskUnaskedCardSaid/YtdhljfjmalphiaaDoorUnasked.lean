/- The run of TaskUnasked, by cases. -/
import Derived.Test.YtdhljfjmalphiaaDoorOrc
namespace Go.Proofs.YtdhljfjmalphiaaDoor.Tab
open Go.Ai
set_option maxRecDepth 100000

/-- What is known: the key may be (kb), its hash at two (r), the number at three (q). -/
noncomputable def sumU (kb : Bool) : CallF := fun f args s => match sumMake f args s with
  | some x => some x
  | none => match args with
    | [] => cond (Nat.beq f 8) (some (.bool true, s)) none
    | [.sstr i] => cond (Nat.beq i 0) (cond (Nat.beq f 7) (some (.bool kb, s)) (cond (Nat.beq f 48 && kb) (some (.sint .u32 1, s)) none)) none
    | _ => none
noncomputable def orcU (r q : Int) : OrcF := fun o args => match o, args with
  | .binOp .rem _ _ _ _, [.sint .i64 i, .int .i64 (.ofNat m)] => cond (Nat.beq i 2 && Nat.beq m 2) (some (.int .i64 r)) (cond (Nat.beq i 0 && Nat.beq m 3) (some (.int .i64 q)) none)
  | .convert a b _, [.sint .u32 i] => cond (Nat.beq i 1 && Nat.beq a 105 && Nat.beq b 3) (some (.sint .i64 2)) none
  | _, _ => none

theorem run_bad : gives (callN (ctx (sumU false) none3 (orcU 0 0)) 1000 60 3 [.sstr 0, .sint .i64 0] (s0 (ctx none3 none3 none2).ng)) (.bool true) = true := by kernel_rfl
theorem run_00 : gives (callN (ctx (sumU true) none3 (orcU 0 0)) 1000 60 3 [.sstr 0, .sint .i64 0] (s0 (ctx none3 none3 none2).ng)) (.bool true) = true := by kernel_rfl
theorem run_01 : gives (callN (ctx (sumU true) none3 (orcU 0 1)) 1000 60 3 [.sstr 0, .sint .i64 0] (s0 (ctx none3 none3 none2).ng)) (.bool true) = true := by kernel_rfl
theorem run_02 : gives (callN (ctx (sumU true) none3 (orcU 0 2)) 1000 60 3 [.sstr 0, .sint .i64 0] (s0 (ctx none3 none3 none2).ng)) (.bool true) = true := by kernel_rfl
theorem run_03 : gives (callN (ctx (sumU true) none3 (orcU 0 (.negSucc 0))) 1000 60 3 [.sstr 0, .sint .i64 0] (s0 (ctx none3 none3 none2).ng)) (.bool true) = true := by kernel_rfl
theorem run_04 : gives (callN (ctx (sumU true) none3 (orcU 0 (.negSucc 1))) 1000 60 3 [.sstr 0, .sint .i64 0] (s0 (ctx none3 none3 none2).ng)) (.bool true) = true := by kernel_rfl
theorem run_10 : gives (callN (ctx (sumU true) none3 (orcU 1 0)) 1000 60 3 [.sstr 0, .sint .i64 0] (s0 (ctx none3 none3 none2).ng)) (.bool true) = true := by kernel_rfl
theorem run_11 : gives (callN (ctx (sumU true) none3 (orcU 1 1)) 1000 60 3 [.sstr 0, .sint .i64 0] (s0 (ctx none3 none3 none2).ng)) (.bool true) = true := by kernel_rfl
theorem run_12 : gives (callN (ctx (sumU true) none3 (orcU 1 2)) 1000 60 3 [.sstr 0, .sint .i64 0] (s0 (ctx none3 none3 none2).ng)) (.bool true) = true := by kernel_rfl
theorem run_13 : gives (callN (ctx (sumU true) none3 (orcU 1 (.negSucc 0))) 1000 60 3 [.sstr 0, .sint .i64 0] (s0 (ctx none3 none3 none2).ng)) (.bool true) = true := by kernel_rfl
theorem run_14 : gives (callN (ctx (sumU true) none3 (orcU 1 (.negSucc 1))) 1000 60 3 [.sstr 0, .sint .i64 0] (s0 (ctx none3 none3 none2).ng)) (.bool true) = true := by kernel_rfl

section
variable [Val]
/-- What the names stand for. -/
structure KnowU (kb : Bool) (r q : Int) : Prop where
  key : keyB (nats (Val.str 0)) = kb
  hash : kb = true → Val.num 1 = hashL 2166136261 (nats (Val.str 0)) ∧ Val.num 2 = wrapF .i64 (Val.num 1) ∧ (Val.num 2).tmod 2 = r
  now : (Val.num 0).tmod 3 = q

theorem sumU_ok {kb : Bool} {r q : Int} (K : KnowU kb r q) : CallOk Tryd.prog (ctx none3 none3 none2).ng (sumU kb) := by
  intro f args s v s' h pr w0 σ w cargs R hargs
  unfold sumU at h
  cases hm : sumMake f args s with
  | some x =>
    simp only [hm, Option.some.injEq] at h
    subst h
    exact sumMake_ok f args s v s' hm pr w0 σ w cargs R hargs
  | none =>
    simp only [hm] at h
    split at h
    · cases hf : Nat.beq f 8 with
      | false => simp [hf] at h
      | true =>
        have hf' := Nat.eq_of_beq_eq_true hf
        subst hf'
        simp only [hf, cond_true, Option.some.injEq, Prod.mk.injEq] at h
        obtain ⟨rfl, rfl⟩ := h
        obtain ⟨s1, h1⟩ := gives_ok task_runs
        exact herm (callM 60) h1 rfl rfl pr w0 σ _ w cargs R hargs
    · rename_i i
      cases hi : Nat.beq i 0 with
      | false => simp [hi] at h
      | true =>
        have hi' := Nat.eq_of_beq_eq_true hi
        subst hi'
        simp only [hi, cond_true] at h
        have hargs' : VRs σ [.str (nats (Val.str 0))] cargs.toList := by
          simp only [VRs, VR] at hargs ⊢
          obtain ⟨y, ys, h1, rfl, h2⟩ := hargs
          exact ⟨_, ys, h1, ⟨_, rfl, rfl⟩, h2⟩
        cases hf : Nat.beq f 7 with
        | true =>
          have hf' := Nat.eq_of_beq_eq_true hf
          subst hf'
          simp only [hf, cond_true, Option.some.injEq, Prod.mk.injEq] at h
          obtain ⟨rfl, rfl⟩ := h
          have h1 := key_run (sum := none3) (ext := none3) (orc := none2) (nats (Val.str 0)) 0 (s0 (ctx none3 none3 none2).ng) rfl
          rw [K.key] at h1
          exact herm (call0 1) h1 rfl rfl pr w0 σ _ w cargs R hargs'
        | false =>
          simp only [hf, cond_false] at h
          cases hf2 : (Nat.beq f 48 && kb) with
          | false => simp [hf2] at h
          | true =>
            simp only [hf2, cond_true, Option.some.injEq, Prod.mk.injEq] at h
            obtain ⟨rfl, rfl⟩ := h
            simp only [Bool.and_eq_true] at hf2
            obtain ⟨hf2, rfl⟩ := hf2
            have hf' := Nat.eq_of_beq_eq_true hf2
            subst hf'
            have hk := K.key
            simp only [keyB, Bool.and_eq_true, decide_eq_true_eq] at hk
            have h1 := hash_run (sum := none3) (ext := none3) (orc := none2) (nats (Val.str 0)) (by omega) 0 (s0 (ctx none3 none3 none2).ng) rfl
            refine (herm (call0 1) h1 rfl rfl pr w0 σ _ w cargs R hargs').mono fun e w' ⟨cv, σ', he, hv, hr⟩ => ⟨cv, σ', he, ?_, hr⟩
            simp only [VR] at hv ⊢
            rw [hv, (K.hash rfl).1]
    · cases h

theorem orcU_ok {kb : Bool} {r q : Int} (K : KnowU kb r q) (hk : kb = true) : OrcOk Tryd.prog (orcU r q) := by
  intro o args v h σ w ρc hv
  unfold orcU at h
  split at h
  · rename_i t x y yt i m ho
    rw [ho] at hv
    simp only [Op.operands, List.map_cons, List.map_nil, VRs, VR] at hv
    obtain ⟨a, l1, e1, hx, b, l2, e2, hy, e3⟩ := hv
    cases e1; cases e2
    cases h1 : (Nat.beq i 2 && Nat.beq m 2) with
    | true =>
      simp only [h1, cond_true, Option.some.injEq] at h
      subst h
      simp only [Bool.and_eq_true, Nat.beq_eq] at h1
      obtain ⟨rfl, rfl⟩ := h1
      refine orc_bin ho hx hy (v' := .int .i64 ((Val.num 2).tmod 2)) rfl (by intro h; cases h) (by intro h; cases h) fun u hu => ?_
      rw [← (K.hash hk).2.2]; exact hu
    | false =>
      simp only [h1, cond_false] at h
      cases h2 : (Nat.beq i 0 && Nat.beq m 3) with
      | false => simp [h2] at h
      | true =>
        simp only [h2, cond_true, Option.some.injEq] at h
        subst h
        simp only [Bool.and_eq_true, Nat.beq_eq] at h2
        obtain ⟨rfl, rfl⟩ := h2
        refine orc_bin ho hx hy (v' := .int .i64 ((Val.num 0).tmod 3)) rfl (by intro h; cases h) (by intro h; cases h) fun u hu => ?_
        rw [← K.now]; exact hu
  · rename_i a b x i ho
    rw [ho] at hv
    simp only [Op.operands, List.map_cons, List.map_nil, VRs, VR] at hv
    obtain ⟨u, l1, e1, hx, e3⟩ := hv
    cases e1
    cases h1 : (Nat.beq i 1 && Nat.beq a 105 && Nat.beq b 3) with
    | false => simp [h1] at h
    | true =>
      simp only [h1, cond_true, Option.some.injEq] at h
      subst h
      simp only [Bool.and_eq_true, Nat.beq_eq] at h1
      obtain ⟨⟨rfl, rfl⟩, rfl⟩ := h1
      refine orc_conv (c := ctx none3 none3 none2) (tok orc_none) ho hx (v' := .int .i64 (wrapF .i64 (Val.num 1))) ?_ fun u hu => ?_
      · simp only [convV, ctx_tt, tt3, tt105]
      · simp only [VR] at hu ⊢
        rw [hu, (K.hash hk).2.1]
  · cases h
end
end Go.Proofs.YtdhljfjmalphiaaDoor.Tab
