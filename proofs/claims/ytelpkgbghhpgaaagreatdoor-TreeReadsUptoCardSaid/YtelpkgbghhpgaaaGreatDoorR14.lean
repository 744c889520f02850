/- TreeReads returns true for all texts whose data are not larger than a bound. The program's functions as plain code. -/
import Derived.Test.YtelpkgbghhpgaaaGreatDoorR0
set_option linter.all false
section
namespace Go.Proofs.YtelpkgbghhpgaaaGreatDoor.Sx
def CallA (S : Sim) (f : Nat) (args : List AV) (st : St) (Q : Res → St → Prop) : Prop :=
  ∃ n r st', S.call n f args st = some (r, st') ∧ Q r st'
def afterCall (Q : Ex → Fr → St → Prop) (K : Fr → St → Prop) (it : AItem) (fr : Fr) : Res → St → Prop
  | .ret v, st' => it.chk.all (chkOk fr st') = true ∧ K (fr.put it.d v) st'
  | .panic v, st' => Q (.panic v) fr st'
def WpO (S : Sim) (Q : Ex → Fr → St → Prop) (K : Fr → St → Prop) (it : AItem) (fr : Fr) (st : St) : Prop :=
  match it.op with
  | .call f xs => match argsOf fr xs with
    | some vs => CallA S f vs st (afterCall Q K it fr)
    | none => False
  | .callv x xs => match x.ev fr, argsOf fr xs with
    | .func (.func f) first captured, some vs => (first.all AV.out0 && captured.all AV.out0) = true ∧ CallA S f (first ++ vs ++ captured) st (afterCall Q K it fr)
    | _, _ => False
  | .panic x => isThrown (x.ev fr) = true ∧ Q (.panic (x.ev fr)) fr st
  | op => match step fr st op with
    | some (v, fr', st') => it.chk.all (chkOk fr' st') = true ∧ K (fr'.put it.d v) st'
    | none => False
def WpI (S : Sim) (Q : Ex → Fr → St → Prop) : List AItem → Fr → St → Prop
  | [], fr, st => Q .normal fr st
  | it :: r, fr, st =>
    match it.g with
    | none => WpO S Q (WpI S Q r) it fr st
    | some (t, w) => match slot t fr.regs with
      | .bool c => if c = w then WpO S Q (WpI S Q r) it (fr.put (some t) (.bool w)) st
          else it.chk.all (chkOk (fr.put (some t) (.bool (!w))) st) = true ∧ WpI S Q r ((fr.put (some t) (.bool (!w))).put it.d (.tuple [])) st
      | .tuple [] => it.chk.all (chkOk fr st) = true ∧ WpI S Q r (fr.put it.d (.tuple [])) st
      | _ => False
def WpL (b : (Ex → Fr → St → Prop) → Fr → St → Prop) (Q : Ex → Fr → St → Prop) : Nat → Fr → St → Prop
  | 0, _, _ => False
  | n + 1, fr, st => b (fun | .normal, fr', st' => WpL b Q n fr' st' | e, fr', st' => Q e fr' st') fr st
def WpC (S : Sim) : ACode → (Ex → Fr → St → Prop) → Fr → St → Prop
  | .skip, Q, fr, st => Q .normal fr st
  | .ret, Q, fr, st => Q .ret fr st
  | .exit id, Q, fr, st => Q (.exit id) fr st
  | .region _ its live, Q, fr, st => WpI S (fun
      | .normal, fr', st' => Q .normal { fr' with regs := keepRegs live fr'.regs } st'
      | e, fr', st' => Q e fr' st') its { fr with ser := fr.ser + 1 } st
  | .seq a b, Q, fr, st => WpC S a (fun | .normal, fr', st' => WpC S b Q fr' st' | e, fr', st' => Q e fr' st') fr st
  | .cond c a b, Q, fr, st => match c.ev fr with | .bool t => if t = true then WpC S a Q fr st else WpC S b Q fr st | _ => False
  | .block id b, Q, fr, st => WpC S b (fun | .exit i, fr', st' => if i = id then Q .normal fr' st' else Q (.exit i) fr' st' | e, fr', st' => Q e fr' st') fr st
  | .loop b, Q, fr, st => ∃ n, WpL (WpC S b) Q n fr st
inductive KI where
  | code (c : ACode)
  | blk (id : Nat)
  | keep (live : List Nat)
def unwind (S : Sim) (Q : Ex → Fr → St → Prop) : List KI → Ex → Fr → St → Prop
  | [], e, fr, st => Q e fr st
  | .code c :: k, .normal, fr, st => WpC S c (unwind S Q k) fr st
  | .keep live :: k, .normal, fr, st => unwind S Q k .normal { fr with regs := keepRegs live fr.regs } st
  | .blk id :: k, .exit i, fr, st => if i = id then unwind S Q k .normal fr st else unwind S Q k (.exit i) fr st
  | _ :: k, e, fr, st => unwind S Q k e fr st
def WpK (S : Sim) (Q : Ex → Fr → St → Prop) (c : ACode) (k : List KI) (fr : Fr) (st : St) : Prop := WpC S c (unwind S Q k) fr st
def roundQ (I : Nat → Fr → St → Prop) (n : Nat) (Q : Ex → Fr → St → Prop) : Ex → Fr → St → Prop
  | .normal, fr, st => ∃ m, m < n ∧ I m fr st
  | e, fr, st => Q e fr st
def bodyQ (res : List ARes) (st0 : St) (Q : Res → St → Prop) : Ex → Fr → St → Prop
  | .normal, fr, st | .ret, fr, st => match resAll fr st res with
    | some vs => vs.all AV.out2 = true ∧ Q (.ret (one vs)) (st.trunc (max st0.size (AV.refs2L vs)))
    | none => False
  | .panic v, _, st => Q (.panic v) (st.trunc st0.size)
  | .exit _, _, _ => False
section
variable {S : Sim} {Q : Ex → Fr → St → Prop} {fr : Fr} {st : St} {k : List KI} {e : Ex}
theorem WpO_mono {it : AItem} {Q Q' : Ex → Fr → St → Prop} {K K' : Fr → St → Prop} {fr : Fr} {st : St} (hq : ∀ e fr st, Q e fr st → Q' e fr st) (hk : ∀ fr st, K fr st → K' fr st) (h : WpO S Q K it fr st) : WpO S Q' K' it fr st := by
  have ha : ∀ r st', afterCall Q K it fr r st' → afterCall Q' K' it fr r st' := fun r st' h => by
    cases r with
    | ret v => exact ⟨h.1, hk _ _ h.2⟩
    | panic v => exact hq _ _ _ h
  have hc : ∀ f vs, CallA S f vs st (afterCall Q K it fr) → CallA S f vs st (afterCall Q' K' it fr) := fun f vs ⟨n, r, s, h1, h2⟩ => ⟨n, r, s, h1, ha _ _ h2⟩
  unfold WpO at h ⊢
  split at h
  · split at h
    · exact hc _ _ h
    · exact h.elim
  · split at h
    · exact ⟨h.1, hc _ _ h.2⟩
    · exact h.elim
  · exact ⟨h.1, hq _ _ _ h.2⟩
  · split at h
    · exact ⟨h.1, hk _ _ h.2⟩
    · exact h.elim
theorem WpI_mono {Q Q' : Ex → Fr → St → Prop} (hq : ∀ e fr st, Q e fr st → Q' e fr st) : ∀ (its : List AItem) (fr : Fr) (st : St), WpI S Q its fr st → WpI S Q' its fr st
  | [], fr, st, h => hq _ _ _ h
  | it :: r, fr, st, h => by
    simp only [WpI] at h ⊢
    split
    · rename_i e
      rw [e] at h
      exact WpO_mono hq (WpI_mono hq r) h
    · rename_i t b e
      rw [e] at h
      simp only at h
      split
      · rename_i c e2
        rw [e2] at h
        simp only at h
        split
        · rename_i e3; rw [if_pos e3] at h; exact WpO_mono hq (WpI_mono hq r) h
        · rename_i e3; rw [if_neg e3] at h; exact ⟨h.1, WpI_mono hq r _ _ h.2⟩
      · rename_i e2
        rw [e2] at h
        exact ⟨h.1, WpI_mono hq r _ _ h.2⟩
      · rename_i e1 e2
        split at h
        · rename_i e3; exact absurd e3 (e1 _)
        · rename_i e3; exact absurd e3 e2
        · exact h
theorem WpL_mono {b : (Ex → Fr → St → Prop) → Fr → St → Prop} (hb : ∀ (Q Q' : Ex → Fr → St → Prop) fr st, (∀ e fr st, Q e fr st → Q' e fr st) → b Q fr st → b Q' fr st) {Q Q' : Ex → Fr → St → Prop} (hq : ∀ e fr st, Q e fr st → Q' e fr st) :
    ∀ n fr st, WpL b Q n fr st → WpL b Q' n fr st
  | 0, _, _, h => h
  | n + 1, fr, st, h => by
    refine hb _ _ fr st (fun e fr st he => ?_) h
    cases e with
    | normal => exact WpL_mono hb hq n fr st he
    | ret => exact hq _ _ _ he
    | exit i => exact hq _ _ _ he
    | panic v => exact hq _ _ _ he
theorem WpC_mono : ∀ (c : ACode) (Q Q' : Ex → Fr → St → Prop) (fr : Fr) (st : St), (∀ e fr st, Q e fr st → Q' e fr st) → WpC S c Q fr st → WpC S c Q' fr st
  | .skip, _, _, _, _, hq, h => hq _ _ _ h
  | .ret, _, _, _, _, hq, h => hq _ _ _ h
  | .exit _, _, _, _, _, hq, h => hq _ _ _ h
  | .region _ its live, Q, Q', fr, st, hq, h => WpI_mono (fun e fr st he => by cases e <;> exact hq _ _ _ he) its _ _ h
  | .seq a b, Q, Q', fr, st, hq, h => WpC_mono a _ _ fr st (fun e fr st he => by
      cases e with
      | normal => exact WpC_mono b _ _ fr st hq he
      | ret => exact hq _ _ _ he
      | exit i => exact hq _ _ _ he
      | panic v => exact hq _ _ _ he) h
  | .cond c a b, Q, Q', fr, st, hq, h => by
    simp only [WpC] at h ⊢
    split
    · rename_i t e
      rw [e] at h
      simp only at h
      split
      · rename_i e2; rw [if_pos e2] at h; exact WpC_mono a _ _ fr st hq h
      · rename_i e2; rw [if_neg e2] at h; exact WpC_mono b _ _ fr st hq h
    · rename_i e
      split at h
      · rename_i e2; exact absurd e2 (e _)
      · exact h
  | .block id b, Q, Q', fr, st, hq, h => WpC_mono b _ _ fr st (fun e fr st he => by
      cases e with
      | normal => exact hq _ _ _ he
      | ret => exact hq _ _ _ he
      | exit i =>
        simp only at he ⊢
        split
        · rename_i e; rw [if_pos e] at he; exact hq _ _ _ he
        · rename_i e; rw [if_neg e] at he; exact hq _ _ _ he
      | panic v => exact hq _ _ _ he) h
  | .loop b, Q, Q', fr, st, hq, ⟨n, h⟩ => ⟨n, WpL_mono (fun Q Q' fr st => WpC_mono b Q Q' fr st) hq n fr st h⟩
theorem K_skip : WpK S Q .skip k fr st = unwind S Q k .normal fr st := rfl
theorem K_ret : WpK S Q .ret k fr st = unwind S Q k .ret fr st := rfl
theorem K_exit (id : Nat) : WpK S Q (.exit id) k fr st = unwind S Q k (.exit id) fr st := rfl
theorem K_region (d : Bool) (its : List AItem) (live : List Nat) : WpK S Q (.region d its live) k fr st = WpI S (unwind S Q (.keep live :: k)) its { fr with ser := fr.ser + 1 } st := by
  simp only [WpK, WpC]
  congr 1
  funext e fr st
  cases e <;> rfl
theorem K_seq (a b : ACode) : WpK S Q (.seq a b) k fr st = WpK S Q a (.code b :: k) fr st := by
  simp only [WpK, WpC]
  congr 1
  funext e fr st
  cases e <;> rfl
theorem K_cond (c : Opd) (a b : ACode) : WpK S Q (.cond c a b) k fr st = match c.ev fr with | .bool t => if t = true then WpK S Q a k fr st else WpK S Q b k fr st | _ => False := rfl
theorem K_block (id : Nat) (b : ACode) : WpK S Q (.block id b) k fr st = WpK S Q b (.blk id :: k) fr st := by
  simp only [WpK, WpC]
  congr 1
  funext e fr st
  cases e <;> rfl
theorem U_nil : unwind S Q [] e fr st = Q e fr st := by cases e <;> rfl
theorem U_code (c : ACode) : unwind S Q (.code c :: k) .normal fr st = WpK S Q c k fr st := rfl
theorem U_keep (live : List Nat) : unwind S Q (.keep live :: k) .normal fr st = unwind S Q k .normal { fr with regs := keepRegs live fr.regs } st := rfl
theorem U_blk (id : Nat) : unwind S Q (.blk id :: k) .normal fr st = unwind S Q k .normal fr st := rfl
theorem U_codeR (c : ACode) : unwind S Q (.code c :: k) .ret fr st = unwind S Q k .ret fr st := rfl
theorem U_keepR (live : List Nat) : unwind S Q (.keep live :: k) .ret fr st = unwind S Q k .ret fr st := rfl
theorem U_blkR (id : Nat) : unwind S Q (.blk id :: k) .ret fr st = unwind S Q k .ret fr st := rfl
theorem U_codeP (c : ACode) (v : AV) : unwind S Q (.code c :: k) (.panic v) fr st = unwind S Q k (.panic v) fr st := rfl
theorem U_keepP (live : List Nat) (v : AV) : unwind S Q (.keep live :: k) (.panic v) fr st = unwind S Q k (.panic v) fr st := rfl
theorem U_blkP (id : Nat) (v : AV) : unwind S Q (.blk id :: k) (.panic v) fr st = unwind S Q k (.panic v) fr st := rfl
theorem U_codeE (c : ACode) (i : Nat) : unwind S Q (.code c :: k) (.exit i) fr st = unwind S Q k (.exit i) fr st := rfl
theorem U_keepE (live : List Nat) (i : Nat) : unwind S Q (.keep live :: k) (.exit i) fr st = unwind S Q k (.exit i) fr st := rfl
theorem U_blkE (id : Nat) (i : Nat) : unwind S Q (.blk id :: k) (.exit i) fr st = if i = id then unwind S Q k .normal fr st else unwind S Q k (.exit i) fr st := rfl
theorem roundQ_normal {I : Nat → Fr → St → Prop} {n : Nat} : roundQ I n Q .normal fr st = ∃ m, m < n ∧ I m fr st := rfl
theorem roundQ_ret {I : Nat → Fr → St → Prop} {n : Nat} : roundQ I n Q .ret fr st = Q .ret fr st := rfl
theorem roundQ_exit {I : Nat → Fr → St → Prop} {n : Nat} (i : Nat) : roundQ I n Q (.exit i) fr st = Q (.exit i) fr st := rfl
theorem roundQ_panic {I : Nat → Fr → St → Prop} {n : Nat} (v : AV) : roundQ I n Q (.panic v) fr st = Q (.panic v) fr st := rfl
theorem body_normal {res : List ARes} {st0 : St} {Q : Res → St → Prop} : bodyQ res st0 Q .normal fr st = match resAll fr st res with
    | some vs => vs.all AV.out2 = true ∧ Q (.ret (one vs)) (st.trunc (max st0.size (AV.refs2L vs)))
    | none => False := rfl
theorem body_ret {res : List ARes} {st0 : St} {Q : Res → St → Prop} : bodyQ res st0 Q .ret fr st = match resAll fr st res with
    | some vs => vs.all AV.out2 = true ∧ Q (.ret (one vs)) (st.trunc (max st0.size (AV.refs2L vs)))
    | none => False := rfl
theorem body_panic {res : List ARes} {st0 : St} {Q : Res → St → Prop} (v : AV) : bodyQ res st0 Q (.panic v) fr st = Q (.panic v) (st.trunc st0.size) := rfl
theorem after_ret {K : Fr → St → Prop} {it : AItem} (v : AV) : afterCall Q K it fr (.ret v) st = (it.chk.all (chkOk fr st) = true ∧ K (fr.put it.d v) st) := rfl
theorem after_panic {K : Fr → St → Prop} {it : AItem} (v : AV) : afterCall Q K it fr (.panic v) st = Q (.panic v) fr st := rfl
theorem I_nil : WpI S Q [] fr st = Q .normal fr st := rfl
theorem I_cons (it : AItem) (r : List AItem) : WpI S Q (it :: r) fr st =
    match it.g with
    | none => WpO S Q (WpI S Q r) it fr st
    | some (t, w) => match slot t fr.regs with
      | .bool c => if c = w then WpO S Q (WpI S Q r) it (fr.put (some t) (.bool w)) st
          else it.chk.all (chkOk (fr.put (some t) (.bool (!w))) st) = true ∧ WpI S Q r ((fr.put (some t) (.bool (!w))).put it.d (.tuple [])) st
      | .tuple [] => it.chk.all (chkOk fr st) = true ∧ WpI S Q r (fr.put it.d (.tuple [])) st
      | _ => False := rfl
theorem wp_loop {b : ACode} (I : Nat → Fr → St → Prop) (n : Nat) (h0 : I n fr st)
    (hr : ∀ n fr st, I n fr st → WpK S (roundQ I n (unwind S Q k)) b [] fr st) : WpK S Q (.loop b) k fr st := by
  refine ⟨n + 1, ?_⟩
  have key : ∀ n m, m ≤ n → ∀ fr st, I m fr st → WpL (WpC S b) (unwind S Q k) (n + 1) fr st := by
    intro n
    induction n with
    | zero =>
      intro m hm fr st hi
      refine WpC_mono b _ _ fr st (fun e fr st he => ?_) (hr m fr st hi)
      rw [U_nil] at he
      cases e with
      | normal => obtain ⟨m', h1, _⟩ := he; omega
      | ret => exact he
      | exit i => exact he
      | panic v => exact he
    | succ n ih =>
      intro m hm fr st hi
      refine WpC_mono b _ _ fr st (fun e fr st he => ?_) (hr m fr st hi)
      rw [U_nil] at he
      cases e with
      | normal => obtain ⟨m', h1, h2⟩ := he; exact ih m' (by omega) fr st h2
      | ret => exact he
      | exit i => exact he
      | panic v => exact he
  exact key n n (Nat.le_refl _) fr st h0
end
theorem runItems_mono {c c' : CallFn} (h : CallLe c c') : ∀ (its : List AItem) (fr : Fr) (st : St) r, runItems c its fr st = some r → runItems c' its fr st = some r
  | [], fr, st, r, hr => hr
  | it :: its, fr, st, r, hr => by
    simp only [runItems] at hr ⊢
    split at hr
    · cases hr
    · split at hr
      · rename_i e; rw [if_pos e]; exact runItems_mono h its _ _ r hr
      · cases hr
    · have back : ∀ (q q' : Option (Res × St)) (fr1 : Fr), (∀ x, q = some x → q' = some x) →
          (match q with
            | some (.ret v, st') => if it.chk.all (chkOk fr1 st') then runItems c its (fr1.put it.d v) st' else none
            | some (.panic v, st') => some (.panic v, fr1, st')
            | none => none) = some r →
          (match q' with
            | some (.ret v, st') => if it.chk.all (chkOk fr1 st') then runItems c' its (fr1.put it.d v) st' else none
            | some (.panic v, st') => some (.panic v, fr1, st')
            | none => none) = some r := by
        intro q q' fr1 hq hr
        split at hr
        · rename_i v st'
          rw [hq _ rfl]
          simp only
          split at hr
          · rename_i e; rw [if_pos e]; exact runItems_mono h its _ _ r hr
          · cases hr
        · rw [hq _ rfl]; exact hr
        · cases hr
      split at hr
      · split at hr
        · rename_i vs hv; exact back _ _ _ (fun x hx => h _ _ _ x hx) hr
        · cases hr
      · split at hr
        · rename_i hx hv
          split at hr
          · rename_i e; rw [if_pos e]; exact back _ _ _ (fun x hx => h _ _ _ x hx) hr
          · cases hr
        · cases hr
      · exact hr
      · split at hr
        · rename_i v fr' st' hst
          split at hr
          · rename_i e
            rw [if_pos e]
            exact runItems_mono h its _ _ r hr
          · cases hr
        · cases hr
theorem iter_mono {b b' : Fr → St → Option (Ex × Fr × St)} (h : ∀ fr st r, b fr st = some r → b' fr st = some r) : ∀ (n n' : Nat) (fr : Fr) (st : St) r, n ≤ n' → iter b n fr st = some r → iter b' n' fr st = some r
  | 0, _, _, _, _, _, hr => by simp [iter] at hr
  | n + 1, 0, _, _, _, hn, _ => by omega
  | n + 1, n' + 1, fr, st, r, hn, hr => by
    simp only [iter] at hr ⊢
    split at hr
    · rename_i fr1 st1 h1
      rw [h _ _ _ h1]
      exact iter_mono h n n' fr1 st1 r (by omega) hr
    · rename_i hne
      rw [h _ _ _ hr]
      obtain ⟨e, fr1, st1⟩ := r
      cases e with
      | normal => exact (hne _ _ hr).elim
      | ret => rfl
      | exit i => rfl
      | panic v => rfl
theorem eval_mono {c c' : CallFn} (h : CallLe c c') {n n' : Nat} (hn : n ≤ n') : ∀ (ac : ACode) (fr : Fr) (st : St) r, eval c n ac fr st = some r → eval c' n' ac fr st = some r
  | .skip, _, _, _, hr => hr
  | .ret, _, _, _, hr => hr
  | .exit _, _, _, _, hr => hr
  | .region _ its live, fr, st, r, hr => by
    simp only [eval] at hr ⊢
    split at hr
    · rename_i h1; rw [runItems_mono h its _ _ _ h1]; exact hr
    · rename_i hne
      rw [runItems_mono h its _ _ _ hr]
      obtain ⟨e, fr1, st1⟩ := r
      cases e with
      | normal => exact (hne _ _ hr).elim
      | ret => rfl
      | exit i => rfl
      | panic v => rfl
  | .seq a b, fr, st, r, hr => by
    simp only [eval] at hr ⊢
    split at hr
    · rename_i h1; rw [eval_mono h hn a _ _ _ h1]; exact eval_mono h hn b _ _ r hr
    · rename_i hne
      rw [eval_mono h hn a _ _ _ hr]
      obtain ⟨e, fr1, st1⟩ := r
      cases e with
      | normal => exact (hne _ _ hr).elim
      | ret => rfl
      | exit i => rfl
      | panic v => rfl
  | .cond x a b, fr, st, r, hr => by
    simp only [eval] at hr ⊢
    split at hr
    · exact eval_mono h hn a _ _ r hr
    · exact eval_mono h hn b _ _ r hr
    · cases hr
  | .block id b, fr, st, r, hr => by
    simp only [eval] at hr ⊢
    split at hr
    · rename_i h1; rw [eval_mono h hn b _ _ _ h1]; exact hr
    · rename_i hne
      rw [eval_mono h hn b _ _ _ hr]
      obtain ⟨e, fr1, st1⟩ := r
      cases e with
      | normal => rfl
      | ret => rfl
      | exit i => exact (hne _ _ _ hr).elim
      | panic v => rfl
  | .loop b, fr, st, r, hr => iter_mono (fun fr st r => eval_mono h hn b fr st r) n n' fr st r hn hr
theorem call_succ (S : Sim) : ∀ n, CallLe (S.call n) (S.call (n + 1))
  | 0 => fun f vs st r h => by simp [Sim.call] at h
  | n + 1 => fun f vs st r h => by
    have ih := call_succ S n
    rw [Sim.call] at h ⊢
    split at h
    · rename_i k hk
      exact S.mono f k hk _ _ ih vs st r h
    · split at h
      · cases h
      · split at h
        · rename_i hl
          rw [if_pos hl]
          split at h
          · rename_i he; rw [eval_mono ih (Nat.le_succ n) _ _ _ _ he]; exact h
          · rename_i he; rw [eval_mono ih (Nat.le_succ n) _ _ _ _ he]; exact h
          · rename_i he; rw [eval_mono ih (Nat.le_succ n) _ _ _ _ he]; exact h
          · cases h
        · cases h
theorem call_le (S : Sim) {n m : Nat} (h : n ≤ m) : CallLe (S.call n) (S.call m) := by
  induction h with
  | refl => exact fun _ _ _ _ h => h
  | step _ ih => exact fun f vs st r h => call_succ S _ f vs st r (ih f vs st r h)
theorem runsI {S : Sim} {Q : Ex → Fr → St → Prop} : ∀ (its : List AItem) (fr : Fr) (st : St), WpI S Q its fr st → ∃ n e fr' st', runItems (S.call n) its fr st = some (e, fr', st') ∧ Q e fr' st'
  | [], fr, st, h => ⟨0, _, _, _, rfl, h⟩
  | it :: its, fr, st, h => by
    have op : ∀ fr0 fr1, guardA fr0 it.g = some (true, fr1) → WpO S Q (WpI S Q its) it fr1 st → ∃ n e fr' st', runItems (S.call n) (it :: its) fr0 st = some (e, fr', st') ∧ Q e fr' st' := by
      intro fr0 fr1 hg h
      have back : ∀ f vs (P : CallFn → Option (Ex × Fr × St)), CallA S f vs st (afterCall Q (WpI S Q its) it fr1) →
          (∀ n, P (S.call n) = (match S.call n f vs st with
            | some (.ret v, st') => if it.chk.all (chkOk fr1 st') then runItems (S.call n) its (fr1.put it.d v) st' else none
            | some (.panic v, st') => some (.panic v, fr1, st')
            | none => none)) → ∃ n e fr' st', P (S.call n) = some (e, fr', st') ∧ Q e fr' st' := by
        rintro f vs P ⟨n, r, s, h1, h2⟩ hP
        cases r with
        | ret v =>
          obtain ⟨h3, h4⟩ := h2
          obtain ⟨n', e, fr', st', h5, h6⟩ := runsI its _ _ h4
          refine ⟨max n n', e, fr', st', ?_, h6⟩
          rw [hP, call_le S (Nat.le_max_left n n') _ _ _ _ h1]
          simp only [h3, if_true]
          exact runItems_mono (call_le S (Nat.le_max_right n n')) its _ _ _ h5
        | panic v => exact ⟨n, .panic v, fr1, s, by rw [hP, h1], h2⟩
      unfold WpO at h
      split at h
      · rename_i f xs hop
        split at h
        case h_2 => exact h.elim
        rename_i vs hv
        refine back f vs (fun c => runItems c (it :: its) fr0 st) h fun n => ?_
        simp only [runItems, hg, hop, hv]
        split <;> (rename_i hh; rw [hh])
      · rename_i x xs hop
        split at h
        case h_2 => exact h.elim
        rename_i i first captured vs hx hv
        refine back i _ (fun c => runItems c (it :: its) fr0 st) h.2 fun n => ?_
        simp only [runItems, hg, hop, hx, hv, h.1, if_true]
        split <;> (rename_i hh; rw [hh])
      · rename_i x hop
        exact ⟨0, _, _, _, by simp only [runItems, hg, hop, h.1, if_true], h.2⟩
      · rename_i op h1 h2 h3
        split at h
        case h_2 => exact h.elim
        rename_i v fr' st' hst
        obtain ⟨n, e, fr2, st2, h5, h6⟩ := runsI its _ _ h.2
        refine ⟨n, e, fr2, st2, ?_, h6⟩
        simp only [runItems, hg, hst, h.1, if_true]
        exact h5
    simp only [WpI] at h
    split at h
    · rename_i e
      exact op fr fr (by rw [e]; rfl) h
    · rename_i t b e
      split at h
      · rename_i c e2
        split at h
        · rename_i e3
          subst e3
          exact op fr _ (by rw [e]; simp [guardA, e2]) h
        · rename_i e3
          obtain ⟨n, e', fr', st', h5, h6⟩ := runsI its _ _ h.2
          refine ⟨n, e', fr', st', ?_, h6⟩
          have : guardA fr it.g = some (false, fr.put (some t) (.bool (!b))) := by
            rw [e]; simp only [guardA, e2]
            cases c <;> cases b <;> first | rfl | exact absurd rfl e3
          simp only [runItems, this, h.1, if_true]
          exact h5
      · rename_i e2
        obtain ⟨n, e', fr', st', h5, h6⟩ := runsI its _ _ h.2
        refine ⟨n, e', fr', st', ?_, h6⟩
        have : guardA fr it.g = some (false, fr) := by rw [e]; simp only [guardA, e2]
        simp only [runItems, this, h.1, if_true]
        exact h5
      · exact h.elim
theorem runsC {S : Sim} : ∀ (c : ACode) (Q : Ex → Fr → St → Prop) (fr : Fr) (st : St), WpC S c Q fr st → ∃ n e fr' st', eval (S.call n) n c fr st = some (e, fr', st') ∧ Q e fr' st'
  | .skip, _, _, _, h => ⟨0, _, _, _, rfl, h⟩
  | .ret, _, _, _, h => ⟨0, _, _, _, rfl, h⟩
  | .exit _, _, _, _, h => ⟨0, _, _, _, rfl, h⟩
  | .region _ its live, Q, fr, st, h => by
    obtain ⟨n, e, fr', st', h1, h2⟩ := runsI its _ _ h
    cases e with
    | normal => exact ⟨n, .normal, _, _, by simp only [eval, h1], h2⟩
    | ret => exact ⟨n, .ret, _, _, by simp only [eval, h1], h2⟩
    | exit i => exact ⟨n, .exit i, _, _, by simp only [eval, h1], h2⟩
    | panic v => exact ⟨n, .panic v, _, _, by simp only [eval, h1], h2⟩
  | .seq a b, Q, fr, st, h => by
    obtain ⟨n, e, fr', st', h1, h2⟩ := runsC a _ _ _ h
    cases e with
    | normal =>
      obtain ⟨n', e, fr2, st2, h3, h4⟩ := runsC b _ _ _ h2
      refine ⟨max n n', e, fr2, st2, ?_, h4⟩
      simp only [eval, eval_mono (call_le S (Nat.le_max_left n n')) (Nat.le_max_left n n') a _ _ _ h1]
      exact eval_mono (call_le S (Nat.le_max_right n n')) (Nat.le_max_right n n') b _ _ _ h3
    | ret => exact ⟨n, .ret, _, _, by simp only [eval, h1], h2⟩
    | exit i => exact ⟨n, .exit i, _, _, by simp only [eval, h1], h2⟩
    | panic v => exact ⟨n, .panic v, _, _, by simp only [eval, h1], h2⟩
  | .cond x a b, Q, fr, st, h => by
    simp only [WpC] at h
    split at h
    · rename_i t e
      cases t
      · obtain ⟨n, e', fr', st', h1, h2⟩ := runsC b _ _ _ h
        exact ⟨n, e', fr', st', by simp only [eval, e]; exact h1, h2⟩
      · obtain ⟨n, e', fr', st', h1, h2⟩ := runsC a _ _ _ h
        exact ⟨n, e', fr', st', by simp only [eval, e]; exact h1, h2⟩
    · exact h.elim
  | .block id b, Q, fr, st, h => by
    obtain ⟨n, e, fr', st', h1, h2⟩ := runsC b _ _ _ h
    cases e with
    | normal => exact ⟨n, .normal, _, _, by simp only [eval, h1], h2⟩
    | ret => exact ⟨n, .ret, _, _, by simp only [eval, h1], h2⟩
    | exit i =>
      simp only at h2
      by_cases hi : i = id
      · rw [if_pos hi] at h2; exact ⟨n, .normal, _, _, by simp only [eval, h1, hi, if_true], h2⟩
      · rw [if_neg hi] at h2; exact ⟨n, .exit i, _, _, by simp only [eval, h1, hi, if_false], h2⟩
    | panic v => exact ⟨n, .panic v, _, _, by simp only [eval, h1], h2⟩
  | .loop b, Q, fr, st, ⟨k, h⟩ => by
    have key : ∀ k fr st, WpL (WpC S b) Q k fr st → ∃ n e fr' st', iter (eval (S.call n) n b) k fr st = some (e, fr', st') ∧ Q e fr' st' := by
      intro k
      induction k with
      | zero => intro fr st h; exact h.elim
      | succ k ih =>
        intro fr st h
        obtain ⟨n, e, fr', st', h1, h2⟩ := runsC b _ _ _ h
        cases e with
        | normal =>
          obtain ⟨n', e, fr2, st2, h3, h4⟩ := ih _ _ h2
          refine ⟨max n n', e, fr2, st2, ?_, h4⟩
          simp only [iter, eval_mono (call_le S (Nat.le_max_left n n')) (Nat.le_max_left n n') b _ _ _ h1]
          exact iter_mono (fun fr st r => eval_mono (call_le S (Nat.le_max_right n n')) (Nat.le_max_right n n') b fr st r) k k _ _ _ (Nat.le_refl _) h3
        | ret => exact ⟨n, .ret, _, _, by simp only [iter, h1], h2⟩
        | exit i => exact ⟨n, .exit i, _, _, by simp only [iter, h1], h2⟩
        | panic v => exact ⟨n, .panic v, _, _, by simp only [iter, h1], h2⟩
    obtain ⟨n, e, fr', st', h1, h2⟩ := key k fr st h
    refine ⟨max n k, e, fr', st', ?_, h2⟩
    simp only [eval]
    exact iter_mono (fun fr st r => eval_mono (call_le S (Nat.le_max_left n k)) (Nat.le_max_left n k) b fr st r) k (max n k) _ _ _ (Nat.le_max_right n k) h1
theorem callA_body {S : Sim} {f na nl : Nat} {res : List ARes} {body : ACode} {args : List AV} {st : St} {Q : Res → St → Prop} (hi : S.intr f = none) (hc : S.code f = some ⟨na, nl, res, body⟩)
    (hl : args.length = na) (h : WpK S (bodyQ res st Q) body [] ⟨startRegs 0 args, List.replicate nl (0, []), [], 0⟩ st) : CallA S f args st Q := by
  obtain ⟨n, e, fr', st', h1, h2⟩ := runsC body _ _ _ h
  rw [U_nil] at h2
  cases e with
  | normal =>
    simp only [bodyQ] at h2
    split at h2
    case h_2 => exact h2.elim
    rename_i vs hvs
    exact ⟨n + 1, _, _, by rw [Sim.call]; simp only [hi, hc, hl, if_true, h1, hvs, h2.1], h2.2⟩
  | ret =>
    simp only [bodyQ] at h2
    split at h2
    case h_2 => exact h2.elim
    rename_i vs hvs
    exact ⟨n + 1, _, _, by rw [Sim.call]; simp only [hi, hc, hl, if_true, h1, hvs, h2.1], h2.2⟩
  | exit i => exact h2.elim
  | panic v => exact ⟨n + 1, _, _, by rw [Sim.call]; simp only [hi, hc, hl, if_true, h1], h2⟩
theorem CallA.mono {S : Sim} {f : Nat} {args : List AV} {st : St} {Q Q' : Res → St → Prop} (h : CallA S f args st Q) (hq : ∀ r s, Q r s → Q' r s) : CallA S f args st Q' := by
  obtain ⟨n, r, s, h1, h2⟩ := h
  exact ⟨n, r, s, h1, hq _ _ h2⟩
attribute [go_sem ↓] reduceIte
attribute [go_sem] reduceCtorEq Nat.reduceLT Nat.reduceLeDiff Nat.reduceAdd Nat.reduceMul Nat.reduceSub Nat.reduceEqDiff Nat.reduceBEq Int.reduceToNat Int.reduceLE Int.reduceLT
attribute [go_sem] K_skip K_ret K_exit K_region K_seq K_cond K_block U_nil U_code U_keep U_blk U_codeR U_keepR U_blkR U_codeP U_keepP U_blkP U_codeE U_keepE U_blkE roundQ_normal roundQ_ret roundQ_exit roundQ_panic after_ret after_panic
  I_nil I_cons WpO body_normal body_ret body_panic step slot Opd.ev Fr.put ld locGet rd stw splice abin ibin sbin aun keepRegs resAll resOf one startRegs argsOf guardA isThrown chkOk chkGo fillP fillS aslice lowOf highOf intOf? foldMM homeOk inCell inCells keyOk keyIs keyEq lookE setE eqv eqvL
attribute [go_sem] List.replicate List.map_cons List.map_nil List.length_cons List.length_nil List.set_cons_zero List.set_cons_succ List.getElem?_cons_zero List.getElem?_cons_succ List.getElem?_nil List.all_cons List.all_nil List.drop_zero List.drop_succ_cons List.drop_nil List.take_zero List.take_succ_cons List.take_nil List.cons_append List.nil_append List.append_nil
  Bool.and_true Bool.true_and Bool.and_self Bool.not_true Bool.not_false Bool.false_and Bool.and_false decide_true decide_false decide_eq_true_eq Nat.max_self Nat.max_zero Nat.zero_max Nat.le_refl Nat.zero_le if_true if_false beq_self_eq_true true_and and_true Bool.false_eq_true Bool.true_eq_false eq_self Nat.add_zero Nat.zero_add Int.toNat_natCast Option.map_some Option.map_none
end Go.Proofs.YtelpkgbghhpgaaaGreatDoor.Sx
end
