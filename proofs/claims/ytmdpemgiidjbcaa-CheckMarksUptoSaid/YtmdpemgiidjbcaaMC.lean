import Derived.Test.YtmdpemgiidjbcaaMB
set_option linter.unusedSimpArgs false
set_option linter.unusedVariables false
set_option linter.unusedSimpArgs false
set_option linter.unusedVariables false
open Go.RowKit
namespace Go.Am

/-! ### 24. A machine that runs -/
def bytesEq : List UInt8 → List UInt8 → Bool
  | [], [] => true
  | a :: l, b :: m => match Nat.beq a.toNat b.toNat with
    | true => bytesEq l m
    | false => false
  | _, _ => false
theorem bytesEq_spec : ∀ {l m : List UInt8}, bytesEq l m = true → l = m
  | [], [], _ => rfl
  | a :: l, b :: m, h => by
    simp only [bytesEq] at h
    split at h
    · rename_i h1
      rw [UInt8.toNat_inj.1 (Nat.eq_of_beq_eq_true h1), bytesEq_spec h]
    · cases h
  | [], _ :: _, h => by cases h
  | _ :: _, [], h => by cases h
mutual
def AV.beq : AV → AV → Bool
  | .int k n, .int k' n' => decide (k = k') && decide (n = n')
  | .bool a, .bool b => a == b
  | .str a, .str b => bytesEq a.data.toList b.data.toList
  | .nilptr, .nilptr => true
  | .hptr i p, .hptr i' p' => Nat.beq i i' && Nat.beq p p'
  | .lptr i p, .lptr i' p' => Nat.beq i i' && Nat.beq p p'
  | .fptr e o, .fptr e' o' => Nat.beq o o' && AV.beq e e'
  | .sl z l, .sl z' l' => Nat.beq z z' && AV.beqs l l'
  | .xsl z l, .xsl z' l' => Nat.beq z z' && AV.beqs l l'
  | .hsl a b c d, .hsl a' b' c' d' => Nat.beq a a' && Nat.beq b b' && Nat.beq c c' && Nat.beq d d'
  | .agg l, .agg l' => AV.beqs l l'
  | .tup l, .tup l' => AV.beqs l l'
  | .iface t v, .iface t' v' => Nat.beq t t' && AV.beq v v'
  | .nilif, .nilif => true
  | .fn f l, .fn f' l' => Nat.beq f f' && AV.beqs l l'
  | .nilfn, .nilfn => true
  | .map i, .map i' => Nat.beq i i'
  | .undef, .undef => true
  | .nsl, .nsl => true
  | _, _ => false
def AV.beqs : List AV → List AV → Bool
  | [], [] => true
  | a :: l, b :: m => AV.beq a b && AV.beqs l m
  | _, _ => false
end
theorem nbeq {a b : Nat} (h : Nat.beq a b = true) : a = b := Nat.eq_of_beq_eq_true h
mutual
theorem AV.beq_spec : ∀ {a b : AV}, AV.beq a b = true → a = b
  | .int k n, b, h => by cases b <;> simp [AV.beq] at h; rw [h.1, h.2]
  | .bool x, b, h => by cases b <;> simp [AV.beq] at h; rw [h]
  | .str x, b, h => by
    cases b <;> simp [AV.beq] at h
    rename_i y
    have := bytesEq_spec h
    cases x; cases y
    simp only [ByteArray.mk.injEq, AV.str.injEq]
    exact Array.toList_inj.1 this
  | .nilptr, b, h => by cases b <;> simp [AV.beq] at h; rfl
  | .hptr i p, b, h => by cases b <;> simp [AV.beq] at h; rw [h.1, h.2]
  | .lptr i p, b, h => by cases b <;> simp [AV.beq] at h; rw [h.1, h.2]
  | .fptr e o, b, h => by cases b <;> simp [AV.beq] at h; rw [h.1, AV.beq_spec h.2]
  | .sl z l, b, h => by cases b <;> simp [AV.beq] at h; rw [h.1, AV.beqs_spec h.2]
  | .xsl z l, b, h => by cases b <;> simp [AV.beq] at h; rw [h.1, AV.beqs_spec h.2]
  | .hsl p q r s, b, h => by cases b <;> simp [AV.beq] at h; rw [h.1.1.1, h.1.1.2, h.1.2, h.2]
  | .agg l, b, h => by cases b <;> simp [AV.beq] at h; rw [AV.beqs_spec h]
  | .tup l, b, h => by cases b <;> simp [AV.beq] at h; rw [AV.beqs_spec h]
  | .iface t v, b, h => by cases b <;> simp [AV.beq] at h; rw [h.1, AV.beq_spec h.2]
  | .nilif, b, h => by cases b <;> simp [AV.beq] at h; rfl
  | .fn f l, b, h => by cases b <;> simp [AV.beq] at h; rw [h.1, AV.beqs_spec h.2]
  | .nilfn, b, h => by cases b <;> simp [AV.beq] at h; rfl
  | .map i, b, h => by cases b <;> simp [AV.beq] at h; rw [h]
  | .undef, b, h => by cases b <;> simp [AV.beq] at h; rfl
  | .nsl, b, h => by cases b <;> simp [AV.beq] at h; rfl
theorem AV.beqs_spec : ∀ {l m : List AV}, AV.beqs l m = true → l = m
  | [], [], _ => rfl
  | a :: l, b :: m, h => by
    simp only [AV.beqs, Bool.and_eq_true] at h
    rw [AV.beq_spec h.1, AV.beqs_spec h.2]
  | [], _ :: _, h => by simp [AV.beqs] at h
  | _ :: _, [], h => by simp [AV.beqs] at h
end
abbrev CallF := FuncId → List AV → List HObj → Option (AEnd × List HObj)
abbrev CallDF := FuncId → List AV → AMode → List HObj → Option (AMode × List HObj)
def CallF.rel (c : CallF) : CallR := fun f vs h e h' => c f vs h = some (e, h')
def CallDF.rel (c : CallDF) : CallDR := fun f vs m h m' h' => c f vs m h = some (m', h')
/-- One operation: its effect, or the panic that it brings. -/
inductive SRes where
  | eff (e : Eff)
  | pan (v : AV) (h : List HObj)
def ofCall (dep : List (Nat × List Nat)) (d : Option Nat) : Option (AEnd × List HObj) → Option SRes
  | some (.ret v, h') => match okd dep d v with
    | true => some (.eff { v := v, hw := some h' })
    | false => none
  | some (.panic v, h') => some (.pan v h')
  | none => none
def evStp (c : CallF) (o : AOper) (s : View) : Option SRes := match guarded s o.g with
  | none => none
  | some false => some (.eff { v := .tup [] })
  | some true => match o.op with
    | .call f args => match valAll s args with
      | some vs => ofCall s.dep o.d (c f vs s.hp)
      | none => none
    | .callv x args => match s.val x, valAll s args with
      | some (.fn f caps), some vs => ofCall s.dep o.d (c f (vs ++ caps) s.hp)
      | _, _ => none
    | .panic x => match s.val x with
      | some (.iface t v) => some (.pan (.iface t v) s.hp)
      | _ => none
    | op => match aop o.d op s with
      | some e => some (.eff e)
      | none => none
theorem ofCall_eff {dep : List (Nat × List Nat)} {d : Option Nat} {r : Option (AEnd × List HObj)} {e : Eff} (h : ofCall dep d r = some (.eff e)) : ∃ v h', r = some (.ret v, h') ∧ okd dep d v = true ∧ e = { v := v, hw := some h' } := by
  unfold ofCall at h
  split at h
  · split at h
    · rename_i hd
      cases h
      exact ⟨_, _, rfl, hd, rfl⟩
    · cases h
  · cases h
  · cases h
theorem ofCall_pan {dep : List (Nat × List Nat)} {d : Option Nat} {r : Option (AEnd × List HObj)} {v : AV} {h' : List HObj} (h : ofCall dep d r = some (.pan v h')) : r = some (.panic v, h') := by
  unfold ofCall at h
  split at h
  · split at h <;> cases h
  · cases h; rfl
  · cases h
theorem evStp_eff {c : CallF} {o : AOper} {s : View} {e : Eff} (h : evStp c o s = some (.eff e)) : Stp c.rel o s e := by
  unfold evStp at h
  split at h
  · cases h
  · rename_i hg
    cases h
    exact .skip hg
  · rename_i hg
    split at h
    · rename_i f args hop
      split at h
      · rename_i vs hv
        obtain ⟨v, h', h1, h2, rfl⟩ := ofCall_eff h
        exact .call hg hop hv h1 h2 (.inl rfl)
      · cases h
    · rename_i x args hop
      split at h
      · rename_i f caps vs hx hv
        obtain ⟨v, h', h1, h2, rfl⟩ := ofCall_eff h
        exact .callv hg hop hx hv h1 h2 (.inl rfl)
      · cases h
    · split at h <;> cases h
    · split at h
      · rename_i e' he
        cases h
        exact .op hg he
      · cases h
theorem evStp_pan {c : CallF} {o : AOper} {s : View} {v : AV} {h' : List HObj} (h : evStp c o s = some (.pan v h')) : Pan c.rel o s v h' := by
  unfold evStp at h
  split at h
  · cases h
  · cases h
  · rename_i hg
    split at h
    · rename_i f args hop
      split at h
      · rename_i vs hv
        exact .call hg hop hv (ofCall_pan h)
      · cases h
    · rename_i x args hop
      split at h
      · rename_i f caps vs hx hv
        exact .callv hg hop hx hv (ofCall_pan h)
      · cases h
    · rename_i x hop
      split at h
      · rename_i t u hx
        cases h
        exact .panic hg hop hx
      · cases h
    · split at h <;> cases h
def evOps (c : CallF) : List AOper → AS → Option (AR × AS)
  | [], s => some (.norm, s)
  | o :: l, s => match evStp c o s.view with
    | some (.eff e) => evOps c l (s.apply o.d e)
    | some (.pan v h') => some (.panic v, { s with hp := h' })
    | none => none
/-- A row of operations, by steps. -/
theorem awpOps_stp {C : CallR} {o : AOper} {l : List AOper} {s : AS} {e : Eff} {Q : AR → AS → Prop} (h : Stp C o s.view e) (k : awpOps C l (s.apply o.d e) Q) : awpOps C (o :: l) s Q := by
  unfold awpOps
  cases h with
  | skip h => rw [h]; exact k
  | op h he =>
    simp only [h]
    split
    · rename_i hop; rw [hop] at he; simp [aop, pop] at he
    · rename_i hop; rw [hop] at he; simp [aop, pop] at he
    · rename_i hop; rw [hop] at he; simp [aop, pop] at he
    · simp only [he]; exact k
  | call h ho hv hC hd hq =>
    rw [h, ho]
    simp only [hv]
    refine ⟨_, _, hC, hd, ?_⟩
    rcases hq with rfl | ⟨rfl, rfl⟩ <;> exact k
  | callv h ho hx hv hC hd hq =>
    rw [h, ho]
    simp only [hx, hv]
    refine ⟨_, _, hC, hd, ?_⟩
    rcases hq with rfl | ⟨rfl, rfl⟩ <;> exact k
theorem awpOps_pan {C : CallR} {o : AOper} {l : List AOper} {s : AS} {v : AV} {h' : List HObj} {Q : AR → AS → Prop} (h : Pan C o s.view v h') (k : Q (.panic v) { s with hp := h' }) : awpOps C (o :: l) s Q := by
  unfold awpOps
  cases h with
  | call h ho hv hC =>
    rw [h, ho]
    simp only [hv]
    exact ⟨_, _, hC, k⟩
  | callv h ho hx hv hC =>
    rw [h, ho]
    simp only [hx, hv]
    exact ⟨_, _, hC, k⟩
  | panic h ho hx =>
    rw [h, ho]
    simp only [hx]
    exact k
theorem evOps_sound {c : CallF} {Q : AR → AS → Prop} : ∀ {l : List AOper} {s : AS} {r : AR} {s' : AS}, evOps c l s = some (r, s') → Q r s' → awpOps c.rel l s Q
  | [], s, r, s', h, q => by cases h; exact q
  | o :: l, s, r, s', h, q => by
    simp only [evOps] at h
    split at h
    · rename_i e he
      exact awpOps_stp (evStp_eff he) (evOps_sound h q)
    · rename_i v h' he
      cases h
      exact awpOps_pan (evStp_pan he) q
    · cases h
/-! Any order -/
def sameAt (h h' : List HObj) (id pos n : Nat) : Bool := match hpAt h id pos n, hpAt h' id pos n with
  | some l, some m => AV.beqs l m
  | _, _ => false
def steadyB (x y : Ent) : Bool := match x.ld with
  | some (id, pos, n) => sameAt y.h0 x.h0 id pos n && sameAt y.h1 x.h0 id pos n
  | none => false
def calmB (x y : Ent) : Bool := !y.f.wh || (!x.f.wh && (!x.f.rh || steadyB x y))
def freeB (anc : List Nat) (y : Ent) : Nat → List Ent → Bool
  | _, [] => true
  | i, x :: r => (anc.elem i || (x.f.apart y.f && calmB x y && calmB y x)) && freeB anc y (i + 1) r
theorem sameAt_spec {h h' : List HObj} {id pos n : Nat} (k : sameAt h h' id pos n = true) : hpAt h id pos n = hpAt h' id pos n := by
  unfold sameAt at k
  split at k
  · rename_i h1 h2
    rw [h1, h2, AV.beqs_spec k]
  · cases k
theorem calmB_spec {x y : Ent} (h : calmB x y = true) : x.calm y := by
  simp only [calmB, Bool.or_eq_true, Bool.and_eq_true, Bool.not_eq_true'] at h
  rcases h with h | ⟨h1, h2⟩
  · exact .inl h
  · refine .inr ⟨h1, h2.imp_right fun h => ?_⟩
    unfold steadyB at h
    unfold Ent.steady
    split at h
    · rename_i hld
      rw [hld]
      simp only [Bool.and_eq_true] at h
      exact ⟨sameAt_spec h.1, sameAt_spec h.2⟩
    · cases h
theorem freeB_spec {anc : List Nat} {y : Ent} : ∀ {l : List Ent} {i : Nat}, freeB anc y i l = true → freeOf anc y i l
  | [], i, _ => trivial
  | x :: r, i, h => by
    simp only [freeB, Bool.and_eq_true, Bool.or_eq_true] at h
    exact ⟨h.1.imp_right fun h => ⟨h.1.1, calmB_spec h.1.2, calmB_spec h.2⟩, freeB_spec h.2⟩
def evDraw (c : CallF) : List (AOper × List Nat) → Nat → List Ent → AS → Option (AR × AS)
  | [], _, _, s => some (.norm, s)
  | (o, anc) :: l, j, tr, s => match evStp c o s.view with
    | some (.eff e) => match e.dw, freeB anc (ent o s e) 0 tr with
      | none, true => evDraw c l (j + 1) (tr ++ [ent o s e]) (s.apply o.d e)
      | _, _ => none
    | some (.pan v h') => match freeB anc (ent o s { v := .tup [], hw := some h' }) 0 tr, allAfter j l with
      | true, true => some (.panic v, { s with tm := without (wtAll tr) s.tm, bx := without (wbAll tr) s.bx, hp := h' })
      | _, _ => none
    | none => none
theorem evDraw_sound {c : CallF} {Q : AR → AS → Prop} : ∀ {l : List (AOper × List Nat)} {j : Nat} {tr : List Ent} {s : AS} {r : AR} {s' : AS}, evDraw c l j tr s = some (r, s') → Q r s' → drawGo c.rel l j tr s Q
  | [], j, tr, s, r, s', h, q => by cases h; exact q
  | (o, anc) :: l, j, tr, s, r, s', h, q => by
    simp only [evDraw] at h
    split at h
    · rename_i e he
      split at h
      · rename_i h1 h2
        exact .inl ⟨e, evStp_eff he, h1, freeB_spec h2, evDraw_sound h q⟩
      · cases h
    · rename_i v h' he
      split at h
      · rename_i h1 h2
        cases h
        exact .inr ⟨v, h', evStp_pan he, freeB_spec h1, h2, q⟩
      · cases h
    · cases h
/-! Code -/
def iter (f : AS → Option (AR × AS)) : Nat → AS → Option (AR × AS)
  | 0, _ => none
  | n + 1, s => match f s with
    | some (.norm, s1) => iter f n s1
    | r => r
def ev (c : CallF) (N : Nat) : AC → AS → Option (AR × AS)
  | .skip, s => some (.norm, s)
  | .ops l, s => evOps c l s
  | .draw l, s => evDraw c l 0 [] s
  | .seq a b, s => match ev c N a s with
    | some (.norm, s1) => ev c N b s1
    | r => r
  | .cond x a b, s => match s.view.ev x with
    | some (.bool true) => ev c N a s
    | some (.bool false) => ev c N b s
    | _ => none
  | .blk id a, s => match ev c N a s with
    | some (.exit id', s1) => match Nat.beq id' id with
      | true => some (.norm, s1)
      | false => some (.exit id', s1)
    | r => r
  | .loop a, s => iter (ev c N a) N s
  | .exit id, s => some (.exit id, s)
  | .ret, s => some (.ret, s)
  | .keep ks bs a, s => match ev c N a s with
    | some (.norm, s1) => some (.norm, s1.keep ks bs)
    | r => r
  | .bad, _ => none
theorem iter_sound {C : CallR} {f : AS → Option (AR × AS)} {a : AC} (hf : ∀ {Q : AR → AS → Prop} {s : AS} {r : AR} {s' : AS}, f s = some (r, s') → Q r s' → awp C a s Q) {Q : AR → AS → Prop} :
    ∀ {n : Nat} {s : AS} {r : AR} {s' : AS}, iter f n s = some (r, s') → Q r s' → loopW (fun s Q => ∃ s2, Weak s s2 ∧ awp C a s2 Q) n s Q
  | 0, s, r, s', h, q => by cases h
  | n + 1, s, r, s', h, q => by
    simp only [iter] at h
    simp only [loopW]
    split at h
    · rename_i s1 h1
      exact ⟨_, Weak.refl _, hf h1 (iter_sound hf h q)⟩
    · rename_i h1
      refine ⟨_, Weak.refl _, hf h ?_⟩
      cases r with
      | norm => exact absurd h (h1 _)
      | _ => exact q
theorem iter_norm {f : AS → Option (AR × AS)} : ∀ {n : Nat} {s : AS} {s' : AS}, iter f n s = some (.norm, s') → False
  | 0, s, s', h => by cases h
  | n + 1, s, s', h => by
    simp only [iter] at h
    split at h
    · exact iter_norm h
    · rename_i h1
      exact h1 _ h
theorem ev_sound {c : CallF} {N : Nat} : ∀ (a : AC) {Q : AR → AS → Prop} {s : AS} {r : AR} {s' : AS}, ev c N a s = some (r, s') → Q r s' → awp c.rel a s Q := by
  intro a
  induction a with
  | skip => intro Q s r s' h q; cases h; exact q
  | ops l => intro Q s r s' h q; exact evOps_sound h q
  | draw l => intro Q s r s' h q; exact evDraw_sound h q
  | seq a b iha ihb =>
    intro Q s r s' h q
    simp only [ev] at h
    split at h
    · rename_i s1 h1
      exact iha h1 ⟨_, Weak.refl _, ihb h q⟩
    · rename_i h1
      refine iha h ?_
      cases r with
      | norm => exact absurd h (h1 _)
      | _ => exact q
  | keep ks bs a iha =>
    intro Q s r s' h q
    simp only [ev] at h
    split at h
    · rename_i s1 h1
      cases h
      exact iha h1 q
    · rename_i h1
      refine iha h ?_
      cases r with
      | norm => exact absurd h (h1 _)
      | _ => exact q
  | cond x a b iha ihb =>
    intro Q s r s' h q
    simp only [ev] at h
    simp only [awp]
    split at h
    · rename_i h1; rw [h1]; exact iha h q
    · rename_i h1; rw [h1]; exact ihb h q
    · cases h
  | blk id a iha =>
    intro Q s r s' h q
    simp only [ev] at h
    split at h
    · rename_i id' s1 h1
      refine iha h1 ?_
      split at h
      · rename_i hq
        cases h
        have := nbeq hq
        simp only [this]
        exact q
      · rename_i hq
        cases h
        have : ¬ id' = id := fun e => by subst e; simp [Nat.beq_refl] at hq
        simp only [this]
        exact q
    · rename_i h1
      refine iha h ?_
      cases r with
      | exit id' => exact absurd h (h1 _ _)
      | _ => exact q
  | loop a iha =>
    intro Q s r s' h q
    exact ⟨N, iter_sound iha h q⟩
  | exit id => intro Q s r s' h q; cases h; exact q
  | ret => intro Q s r s' h q; cases h; exact q
  | bad => intro Q s r s' h q; cases h
/-! Functions -/
def evLeave (d : CallDF) (res : List ARes) : List (AV × List AV) → AMode → AS → Option (AEnd × List HObj)
  | [], .ret, s => match aRes s res with
    | some (vs, _) => some (.ret (one1 vs), s.hp)
    | none => none
  | [], .panic v, s => some (.panic v, s.hp)
  | (f, vs) :: ds, m, s => match f with
    | .fn g caps => match d g (vs ++ caps) m s.hp with
      | some (m', h1) => evLeave d res ds m' { s with hp := h1, df := ds }
      | none => none
    | _ => none
theorem evLeave_sound {d : CallDF} {res : List ARes} {e : AEnd} {h' : List HObj} : ∀ {ds : List (AV × List AV)} {m : AMode} {s : AS}, evLeave d res ds m s = some (e, h') → aLeave d.rel res ds m s e h'
  | [], .ret, s, h => by
    simp only [evLeave] at h
    simp only [aLeave]
    split at h
    · rename_i vs s' h1
      rw [h1]
      cases h
      exact ⟨rfl, rfl⟩
    · cases h
  | [], .panic v, s, h => by cases h; exact ⟨rfl, rfl⟩
  | (f, vs) :: ds, m, s, h => by
    simp only [evLeave] at h
    simp only [aLeave]
    split at h
    · split at h
      · rename_i m' h1 h2
        exact ⟨m', h1, h2, evLeave_sound h⟩
      · cases h
    · cases h
def evFin (d : CallDF) (res : List ARes) : Option (AR × AS) → Option (AEnd × List HObj)
  | some (.norm, s) => evLeave d res s.df .ret s
  | some (.ret, s) => evLeave d res s.df .ret s
  | some (.panic v, s) => evLeave d res s.df (.panic v) s
  | _ => none
def evFinD (res : List ARes) (m : AMode) : Option (AR × AS) → Option (AMode × List HObj)
  | some (.norm, s) => match s.df, aRes s res with
    | [], some _ => some (m, s.hp)
    | _, _ => none
  | some (.ret, s) => match s.df, aRes s res with
    | [], some _ => some (m, s.hp)
    | _, _ => none
  | _ => none
def evD (c : CallF) (N : Nat) (body : AC) (m : AMode) (s : AS) (res : List ARes) : Option (AMode × List HObj) :=
  match body with
  | .seq (.ops ({ d := some d, g := none, op := .recov } :: l)) b => match evOps c l { s with tm := put s.tm d m.val } with
    | some (.norm, s1) => evFinD res .ret (ev c N b s1)
    | r => evFinD res .ret r
  | body => evFinD res m (ev c N body s)
/-- 'T': what stands for the functions; 'X': contracts of others. -/
def evF (T : FuncId → Option AFun) (X : CallF) (N : Nat) : Nat → CallF
  | 0 => X
  | n + 1 => fun f vs h => match T f with
    | some F => match Nat.beq vs.length F.np with
      | true => evFin (fun g ws m h => match T g with
          | some G => match Nat.beq ws.length G.np with
            | true => evD (evF T X N n) N G.body m (G.init ws h) G.res
            | false => none
          | none => none) F.res (ev (evF T X N n) N F.body (F.init vs h))
      | false => none
    | none => X f vs h
theorem evFinD_sound {res : List ARes} {m m' : AMode} {h1 : List HObj} {r : AR} {s : AS} (h : evFinD res m (some (r, s)) = some (m', h1)) : finD res m' h1 m r s := by
  cases r with
  | norm =>
    simp only [evFinD] at h
    split at h
    · rename_i h2 h3
      cases h
      exact ⟨h2, by rw [h3]; rfl, rfl, rfl⟩
    · cases h
  | ret =>
    simp only [evFinD] at h
    split at h
    · rename_i h2 h3
      cases h
      exact ⟨h2, by rw [h3]; rfl, rfl, rfl⟩
    · cases h
  | exit id => cases h
  | panic v => cases h
theorem evD_sound {c : CallF} {N : Nat} {body : AC} {m m' : AMode} {s : AS} {res : List ARes} {h1 : List HObj} (h : evD c N body m s res = some (m', h1)) : awpD c.rel body m s (finD res m' h1) := by
  unfold evD at h
  unfold awpD
  split at h
  · rename_i d l b
    simp only
    cases he : evOps c l { s with tm := put s.tm d m.val } with
    | none => rw [he] at h; cases h
    | some p =>
      obtain ⟨r, s1⟩ := p
      rw [he] at h
      refine evOps_sound he ?_
      cases r with
      | norm =>
        simp only at h ⊢
        cases hb : ev c N b s1 with
        | none => rw [hb] at h; cases h
        | some p2 =>
          obtain ⟨r2, s2⟩ := p2
          rw [hb] at h
          exact ev_sound b hb (evFinD_sound h)
      | exit id => exact evFinD_sound h
      | ret => exact evFinD_sound h
      | panic v => exact evFinD_sound h
  · rename_i hne
    split
    · rename_i d l b
      exact absurd rfl (hne d l b)
    · cases hb : ev c N body s with
      | none => rw [hb] at h; cases h
      | some p2 =>
        obtain ⟨r2, s2⟩ := p2
        rw [hb] at h
        exact ev_sound body hb (evFinD_sound h)
theorem evF_sound {P : Program} {T : FuncId → Option AFun} {X : CallF} {N : Nat} (hT : ∀ f F, T f = some F → FnOK P f F) (hX : ∀ f vs h e h', X f vs h = some (e, h') → CallS P f vs h e h') :
    ∀ (n : Nat) (f : FuncId) (vs : List AV) (h : List HObj) (e : AEnd) (h' : List HObj), evF T X N n f vs h = some (e, h') → CallS P f vs h e h' := by
  intro n
  induction n with
  | zero => exact hX
  | succ n ih =>
    intro f vs h e h' hev
    simp only [evF] at hev
    split at hev
    · rename_i F hF
      split at hev
      · rename_i hlen
        refine fun_sound (C := (evF T X N n).rel) (D := CallDF.rel fun g ws m h => match T g with
          | some G => match Nat.beq ws.length G.np with
            | true => evD (evF T X N n) N G.body m (G.init ws h) G.res
            | false => none
          | none => none) ih (fun g ws m h m' h1 hd => ?_) (hT f F hF) (nbeq hlen) ?_
        · simp only [CallDF.rel] at hd
          split at hd
          · rename_i G hG
            split at hd
            · rename_i hlen2
              exact funD_sound (C := (evF T X N n).rel) ih (hT g G hG) (nbeq hlen2) (evD_sound hd)
            · cases hd
          · cases hd
        · cases hb : ev (evF T X N n) N F.body (F.init vs h) with
          | none => rw [hb] at hev; cases hev
          | some p =>
            obtain ⟨r, s⟩ := p
            rw [hb] at hev
            refine ev_sound F.body hb ?_
            cases r with
            | norm => exact evLeave_sound hev
            | exit id => cases hev
            | ret => exact evLeave_sound hev
            | panic v => exact evLeave_sound hev
      · cases hev
    · exact hX f vs h e h' hev
end Go.Am

set_option linter.unusedSimpArgs false
set_option linter.unusedVariables false
open Go.RowKit
namespace Go.Am

/-! ### 25. A function of a loaded program -/
def lookD {α : Type} (l : List (Nat × α)) (k : Nat) (d : α) : α := (look l k).getD d
theorem FnOK.of {P : Program} {f : FuncId} {fn : Func} {F : AFun} (n : List (Nat × Nat)) (o : List (Nat × List (Nat × List Nat))) (v : List (Nat × List Nat × List Nat)) (h1 : P.funcs[f]? = some fn)
    (h2 : (fn.body.bind (cmpC P (fun t => lookD n t 0) (fun i => lookD o i []) (fun i => look v i) fn.ntmps)) = some F.body) (h3 : cmpR P fn.results.toList = some F.res) (h4 : (Nat.ble F.np fn.ntmps && !(fn.name == "runtime.NumGoroutine")) = true) : FnOK P f F := by
  simp only [Bool.and_eq_true, Nat.ble_eq, Bool.not_eq_true', beq_eq_false_iff_ne, ne_eq] at h4
  rw [Option.bind_eq_some_iff] at h2
  obtain ⟨c, hb, hc⟩ := h2
  exact ⟨fn, _, _, _, c, h1, hb, h4.2, h4.1, hc, h3⟩

/-! ### 26. Any order, where temporaries do not meet: told once, ahead of running -/
def depD (dep : List (Nat × List Nat)) : Option Nat → List Nat
  | none => []
  | some d => match look dep d with
    | some l => l
    | none => []
def AOp.tws (dep : List (Nat × List Nat)) (d : Option Nat) : AOp → List Nat
  | .mv x true => x.tms
  | .alloc _ _ => depD dep d
  | .box x _ => x.tms ++ depD dep d
  | .store _ x _ => x.tms
  | .app x _ _ _ => x.tms
  | _ => []
/-- May it read or write variables? -/
def AOp.mem : AOp → Bool
  | .load .. => true
  | .store .. => true
  | .alloc .. => true
  | .box .. => true
  | .bslice _ _ _ _ h => h
  | .mkmap => true
  | .mkarr _ _ _ _ h => h
  | .lookup .. => true
  | .mapup .. => true
  | .call .. => true
  | .callv .. => true
  | .panic _ => true
  | _ => false
structure SFoot where
  wt : List Nat
  rt : List Nat
def sfoot (dep : List (Nat × List Nat)) (o : AOper) : SFoot := { wt := dtms o.d ++ o.op.tws dep o.d, rt := gtms o.g ++ o.op.tms }
def SFoot.ok (a b : SFoot) : Bool := disj a.wt b.wt && disj a.wt b.rt && disj a.rt b.wt
def rowOK (anc : List Nat) (y : SFoot) : Nat → List SFoot → Bool
  | _, [] => true
  | i, x :: r => (anc.elem i || x.ok y) && rowOK anc y (i + 1) r
def statOK (dep : List (Nat × List Nat)) : List SFoot → List (AOper × List Nat) → Bool
  | _, [] => true
  | pre, (o, anc) :: l => rowOK anc (sfoot dep o) 0 pre && statOK dep (pre ++ [sfoot dep o]) l
theorem keys_left (x : X) (v : AV) : keys (left x v) = x.tms := by cases x <;> rfl
theorem keys_undef (l : List Nat) : keys (l.map (·, AV.undef)) = l := by
  induction l with
  | nil => rfl
  | cons t l ih => simp only [List.map_cons, keys, ih]
theorem keys_append (l m : List (Nat × AV)) : keys (l ++ m) = keys l ++ keys m := by
  induction l with
  | nil => rfl
  | cons p l ih => obtain ⟨t, v⟩ := p; simp only [List.cons_append, keys, ih]
theorem newVar_tw {s : View} {d : Option Nat} {heap : Bool} {cs : List AV} {tw : List (Nat × AV)} {e : Eff} (h : s.newVar d heap cs tw = some e) : ∀ t, t ∈ keys e.tw → t ∈ keys tw ++ depD s.dep d := by
  unfold View.newVar at h
  split at h
  · cases h
    intro t ht
    exact List.mem_append_left _ ht
  · rename_i d
    split at h
    · rename_i l hl
      split at h
      · cases h
        intro t ht
        simpa [keys_append, keys_undef, depD, hl] using ht
      · cases h
    · cases h
  · cases h
theorem write_tw' {s : View} {a : AV} {new : List AV} {e e' : Eff} (h : s.write a new e = some e') : e'.tw = e.tw := by
  unfold View.write at h
  split at h
  · split at h
    · split at h
      · cases h; rfl
      · cases h
    · cases h
  · split at h
    · split at h
      · cases h; rfl
      · cases h
    · cases h
  · cases h
theorem aop_tw {s : View} {d : Option Nat} {o : AOp} {e : Eff} (h : aop d o s = some e) : ∀ t, t ∈ keys e.tw → t ∈ o.tws s.dep d := by
  have hpop : ∀ {o : AOp}, (match pop d o s with | some v => some { v := v } | none => none : Option Eff) = some e → ∀ t, t ∈ keys e.tw → t ∈ o.tws s.dep d := by
    intro o h t ht
    split at h
    · cases h; cases ht
    · cases h
  cases o <;> try exact hpop h
  case mv x st =>
    cases st with
    | false => exact hpop h
    | true =>
      simp only [aop] at h
      split at h
      · split at h
        · cases h
          intro t ht
          rwa [keys_left] at ht
        · cases h
      · cases h
  case alloc z hp =>
    intro t ht
    have := newVar_tw h t ht
    simpa [keys, AOp.tws] using this
  case box x hp =>
    simp only [aop] at h
    split at h
    · split at h
      · intro t ht
        have := newVar_tw h t ht
        rwa [keys_left] at this
      · cases h
    · cases h
  case bslice sz n z ps hp =>
    cases hp with
    | false => exact hpop h
    | true =>
      simp only [aop] at h
      split at h
      · cases h; intro t ht; cases ht
      · cases h
  case load a n ag st =>
    simp only [aop] at h
    split at h
    · split at h
      · split at h
        · cases h; intro t ht; cases ht
        · rw [write_tw' h]; intro t ht; cases ht
        · cases h
      · cases h
    · cases h
  case store a x n =>
    simp only [aop] at h
    split at h
    · split at h
      · rw [write_tw' h]
        intro t ht
        rwa [keys_left] at ht
      · cases h
    · cases h
  case mkmap =>
    cases h; intro t ht; cases ht
  case mkarr sz by_ z n hp =>
    cases hp with
    | false => exact hpop h
    | true =>
      simp only [aop] at h
      split at h
      · split at h
        · cases h; intro t ht; cases ht
        · cases h
      · cases h
  case lookup m k z ok st =>
    simp only [aop] at h
    split at h
    · split at h
      · split at h
        · split at h <;> (cases h; intro t ht; cases ht)
        · cases h
      · cases h
    · cases h
  case mapup m k v st =>
    simp only [aop] at h
    split at h
    · split at h
      · split at h
        · cases h; intro t ht; cases ht
        · cases h; intro t ht; cases ht
        · cases h
      · cases h
    · cases h
  case app x y sz by_ =>
    simp only [aop] at h
    split at h
    · split at h
      · split at h
        · cases h
          intro t ht
          rwa [keys_left] at ht
        · cases h
      · cases h
    · cases h
  case defer f args =>
    simp only [aop] at h
    split at h
    · split at h
      · cases h; intro t ht; cases ht
      · cases h
    · cases h
/-- What does not reach memory. -/
theorem aop_still {s : View} {d : Option Nat} {o : AOp} {e : Eff} (hm : o.mem = false) (h : aop d o s = some e) : e.bw = none ∧ e.hw = none ∧ o.rb s = [] ∧ o.rh s = false := by
  have hpop : ∀ {o : AOp}, (match pop d o s with | some v => some { v := v } | none => none : Option Eff) = some e → e.bw = none ∧ e.hw = none := by
    intro o h
    split at h
    · cases h; exact ⟨rfl, rfl⟩
    · cases h
  cases o <;> (try (cases hm; done)) <;> (try (simp [aop, pop] at h; done)) <;> (try exact ⟨(hpop h).1, (hpop h).2, rfl, rfl⟩)
  case mv x st =>
    cases st with
    | false => exact ⟨(hpop h).1, (hpop h).2, rfl, rfl⟩
    | true =>
      simp only [aop] at h
      split at h
      · split at h
        · cases h; exact ⟨rfl, rfl, rfl, rfl⟩
        · cases h
      · cases h
  case bslice sz n z ps hp =>
    cases hp with
    | false => exact ⟨(hpop h).1, (hpop h).2, rfl, rfl⟩
    | true => cases hm
  case mkarr sz by_ z n hp =>
    cases hp with
    | false => exact ⟨(hpop h).1, (hpop h).2, rfl, rfl⟩
    | true => cases hm
  case app x y sz by_ =>
    simp only [aop] at h
    split at h
    · split at h
      · split at h
        · cases h; exact ⟨rfl, rfl, rfl, rfl⟩
        · cases h
      · cases h
    · cases h
  case defer f args =>
    simp only [aop] at h
    split at h
    · split at h
      · cases h; exact ⟨rfl, rfl, rfl, rfl⟩
      · cases h
    · cases h

/-- The same of memory alone. -/
def Ent.memfree (x y : Ent) : Prop := disj x.f.wb y.f.wb = true ∧ disj x.f.wb y.f.rb = true ∧ disj x.f.rb y.f.wb = true ∧ x.calm y ∧ y.calm x
def memOf (anc : List Nat) (y : Ent) : List (Nat × Ent) → Prop
  | [] => True
  | (i, x) :: r => (anc.elem i = true ∨ x.memfree y) ∧ memOf anc y r
/-- 'tr': those that reach memory; 'ws', 'bs': what was written. -/
def drawQ (C : CallR) : List (AOper × List Nat) → Nat → List (Nat × Ent) → List Nat → List Nat → AS → (AR → AS → Prop) → Prop
  | [], _, _, _, _, s, Q => Q .norm s
  | (o, anc) :: l, j, tr, ws, bs, s, Q => match o.op.mem with
    | false => match guarded s.view o.g with
      | some true => ∃ e, aop o.d o.op s.view = some e ∧ e.dw = none ∧ drawQ C l (j + 1) tr (ws ++ (dtms o.d ++ keys e.tw)) bs (s.apply o.d e) Q
      | some false => drawQ C l (j + 1) tr (ws ++ dtms o.d) bs (s.apply o.d { v := .tup [] }) Q
      | none => False
    | true => (∃ e, Stp C o s.view e ∧ e.dw = none ∧ memOf anc (ent o s e) tr ∧ drawQ C l (j + 1) (tr ++ [(j, ent o s e)]) (ws ++ (dtms o.d ++ keys e.tw)) (bs ++ btms e.bw) (s.apply o.d e) Q) ∨
      (∃ v h', Pan C o s.view v h' ∧ memOf anc (ent o s { v := .tup [], hw := some h' }) tr ∧ allAfter j l = true ∧ Q (.panic v) { s with tm := without ws s.tm, bx := without bs s.bx, hp := h' })
theorem disj_iff {l m : List Nat} : disj l m = true ↔ ∀ x, x ∈ l → x ∉ m := by
  refine ⟨disj_spec, fun h => ?_⟩
  induction l with
  | nil => rfl
  | cons a l ih =>
    simp only [disj]
    have ha := h a (by simp)
    cases he : m.elem a with
    | true => exact absurd (elem_mem he) ha
    | false => exact ih fun x hx => h x (List.mem_cons_of_mem _ hx)
/-- What is told ahead of running covers what is there. -/
structure Cov (f : SFoot) (x : Ent) : Prop where
  wt : ∀ t, t ∈ x.f.wt → t ∈ f.wt
  rt : x.f.rt = f.rt
theorem SFoot.ok_spec {a b : SFoot} {x y : Ent} (h : a.ok b = true) (ha : Cov a x) (hb : Cov b y) : disj x.f.wt y.f.wt = true ∧ disj x.f.wt y.f.rt = true ∧ disj x.f.rt y.f.wt = true := by
  simp only [SFoot.ok, Bool.and_eq_true] at h
  refine ⟨disj_iff.2 fun t h1 h2 => disj_spec h.1.1 t (ha.wt t h1) (hb.wt t h2), disj_iff.2 fun t h1 h2 => disj_spec h.1.2 t (ha.wt t h1) (hb.rt ▸ h2), disj_iff.2 fun t h1 h2 => disj_spec h.2 t (ha.rt ▸ h1) (hb.wt t h2)⟩
/-- An entry that does not reach memory. -/
def Ent.still (x : Ent) : Prop := x.f.wb = [] ∧ x.f.wh = false ∧ x.f.rb = [] ∧ x.f.rh = false
theorem disj_nil (l : List Nat) : disj l [] = true := disj_iff.2 fun _ _ h => by cases h
theorem Ent.still.memfree {x y : Ent} (h : x.still) : x.memfree y ∧ y.memfree x := by
  obtain ⟨h1, h2, h3, h4⟩ := h
  have e1 : x.calm y := by
    cases hy : y.f.wh with
    | false => exact .inl hy
    | true => exact .inr ⟨h2, .inl h4⟩
  refine ⟨⟨by rw [h1]; rfl, by rw [h1]; rfl, by rw [h3]; rfl, e1, .inl h2⟩, ⟨by rw [h1]; exact disj_nil _, by rw [h3]; exact disj_nil _, by rw [h1]; exact disj_nil _, .inl h2, e1⟩⟩
/-- The whole trace and the traces that are kept. -/
inductive Tr (dep : List (Nat × List Nat)) : List Ent → List SFoot → List (Nat × Ent) → List Nat → List Nat → Prop
  | nil : Tr dep [] [] [] [] []
  | still {es : List Ent} {fs : List SFoot} {tr : List (Nat × Ent)} {ws bs : List Nat} {x : Ent} {f : SFoot} (h : Tr dep es fs tr ws bs) (hc : Cov f x) (hs : x.still) : Tr dep (es ++ [x]) (fs ++ [f]) tr (ws ++ x.f.wt) bs
  | mem {es : List Ent} {fs : List SFoot} {tr : List (Nat × Ent)} {ws bs : List Nat} {x : Ent} {f : SFoot} (h : Tr dep es fs tr ws bs) (hc : Cov f x) : Tr dep (es ++ [x]) (fs ++ [f]) (tr ++ [(es.length, x)]) (ws ++ x.f.wt) (bs ++ x.f.wb)
theorem Tr.len {dep : List (Nat × List Nat)} {es : List Ent} {fs : List SFoot} {tr : List (Nat × Ent)} {ws bs : List Nat} (h : Tr dep es fs tr ws bs) : es.length = fs.length := by
  induction h with
  | nil => rfl
  | still _ _ _ ih => simp [ih]
  | mem _ _ ih => simp [ih]
theorem wtAll_append (a b : List Ent) : wtAll (a ++ b) = wtAll a ++ wtAll b := by
  induction a with
  | nil => rfl
  | cons x a ih => simp [wtAll, ih]
theorem wbAll_append (a b : List Ent) : wbAll (a ++ b) = wbAll a ++ wbAll b := by
  induction a with
  | nil => rfl
  | cons x a ih => simp [wbAll, ih]
theorem Tr.writes {dep : List (Nat × List Nat)} {es : List Ent} {fs : List SFoot} {tr : List (Nat × Ent)} {ws bs : List Nat} (h : Tr dep es fs tr ws bs) : wtAll es = ws ∧ wbAll es = bs := by
  induction h with
  | nil => exact ⟨rfl, rfl⟩
  | still _ _ hs ih => simp [wtAll_append, wbAll_append, wtAll, wbAll, ih.1, ih.2, hs.1]
  | mem _ _ ih => simp [wtAll_append, wbAll_append, wtAll, wbAll, ih.1, ih.2]
theorem Tr.get {dep : List (Nat × List Nat)} {es : List Ent} {fs : List SFoot} {tr : List (Nat × Ent)} {ws bs : List Nat} (h : Tr dep es fs tr ws bs) {i : Nat} {x : Ent} (hx : es[i]? = some x) :
    ∃ f, fs[i]? = some f ∧ Cov f x ∧ (x.still ∨ (i, x) ∈ tr) := by
  induction h with
  | nil => simp at hx
  | @still es fs tr ws bs y f h hc hs ih =>
    rcases Nat.lt_or_ge i es.length with q | q
    · rw [List.getElem?_append_left q] at hx
      obtain ⟨g, h1, h2, h3⟩ := ih hx
      exact ⟨g, by rw [List.getElem?_append_left (by rw [← h.len]; exact q)]; exact h1, h2, h3⟩
    · rw [List.getElem?_append_right q] at hx
      cases hk : i - es.length with
      | zero =>
        rw [hk] at hx
        cases hx
        exact ⟨f, by rw [List.getElem?_append_right (by rw [← h.len]; exact q), ← h.len, hk]; rfl, hc, .inl hs⟩
      | succ k => rw [hk] at hx; simp at hx
  | @mem es fs tr ws bs y f h hc ih =>
    rcases Nat.lt_or_ge i es.length with q | q
    · rw [List.getElem?_append_left q] at hx
      obtain ⟨g, h1, h2, h3⟩ := ih hx
      exact ⟨g, by rw [List.getElem?_append_left (by rw [← h.len]; exact q)]; exact h1, h2, h3.imp_right fun h => List.mem_append_left _ h⟩
    · rw [List.getElem?_append_right q] at hx
      cases hk : i - es.length with
      | zero =>
        rw [hk] at hx
        cases hx
        have e : i = es.length := by omega
        subst e
        exact ⟨f, by rw [List.getElem?_append_right (by rw [← h.len]; exact q), ← h.len, hk]; rfl, hc, .inr (by simp)⟩
      | succ k => rw [hk] at hx; simp at hx
theorem memOf_spec {anc : List Nat} {y : Ent} : ∀ {tr : List (Nat × Ent)}, memOf anc y tr → ∀ i x, (i, x) ∈ tr → anc.elem i = true ∨ x.memfree y
  | (k, z) :: r, h, i, x, hx => by
    rcases List.mem_cons.1 hx with e | e
    · cases e; exact h.1
    · exact memOf_spec h.2 i x e
theorem rowOK_spec {anc : List Nat} {y : SFoot} : ∀ {fs : List SFoot} {k : Nat}, rowOK anc y k fs = true → ∀ i f, fs[i]? = some f → anc.elem (k + i) = true ∨ f.ok y = true
  | f0 :: r, k, h, i, f, hf => by
    simp only [rowOK, Bool.and_eq_true, Bool.or_eq_true] at h
    cases i with
    | zero => simp at hf; subst hf; exact h.1
    | succ i =>
      have := rowOK_spec h.2 i f (by simpa using hf)
      rwa [show k + 1 + i = k + (i + 1) by omega] at this
theorem freeOf_mk {anc : List Nat} {y : Ent} : ∀ {es : List Ent} {k : Nat}, (∀ i x, es[i]? = some x → anc.elem (k + i) = true ∨ x.free y) → freeOf anc y k es
  | [], k, h => trivial
  | x :: r, k, h => ⟨h 0 x rfl, freeOf_mk fun i z hz => by
      have := h (i + 1) z (by simpa using hz)
      rwa [show k + (i + 1) = k + 1 + i by omega] at this⟩
theorem freeOf_of {dep : List (Nat × List Nat)} {anc : List Nat} {es : List Ent} {fs : List SFoot} {tr : List (Nat × Ent)} {ws bs : List Nat} (h : Tr dep es fs tr ws bs) {f : SFoot} {y : Ent} (hc : Cov f y) (hr : rowOK anc f 0 fs = true)
    (hm : y.still ∨ memOf anc y tr) : freeOf anc y 0 es := by
  refine freeOf_mk fun i x hx => ?_
  obtain ⟨g, h1, h2, h3⟩ := h.get hx
  rcases rowOK_spec hr i g h1 with h4 | h4
  · exact .inl h4
  · obtain ⟨q1, q2, q3⟩ := SFoot.ok_spec h4 h2 hc
    have fin : x.memfree y → x.free y := fun ⟨m1, m2, m3, m4, m5⟩ => ⟨by simp only [Foot.apart, q1, q2, q3, m1, m2, m3, Bool.and_self], m4, m5⟩
    rcases h3 with h3 | h3
    · exact .inr (fin h3.memfree.1)
    · rcases hm with hm | hm
      · exact .inr (fin hm.memfree.2)
      · rcases memOf_spec hm i x h3 with h5 | h5
        · exact .inl (by rwa [Nat.zero_add])
        · exact .inr (fin h5)
theorem ent_cov {o : AOper} {s : AS} {e : Eff} (h : ∀ t, t ∈ keys e.tw → t ∈ o.op.tws s.dep o.d) : Cov (sfoot s.dep o) (ent o s e) :=
  ⟨fun t ht => by
    rcases List.mem_append.1 ht with q | q
    · exact List.mem_append_left _ q
    · exact List.mem_append_right _ (h t q), rfl⟩
theorem drawQ_go {C : CallR} {Q : AR → AS → Prop} {dep : List (Nat × List Nat)} : ∀ (l : List (AOper × List Nat)) (es : List Ent) (fs : List SFoot) (tr : List (Nat × Ent)) (ws bs : List Nat) (s : AS), s.dep = dep → Tr dep es fs tr ws bs → statOK dep fs l = true →
    drawQ C l es.length tr ws bs s Q → drawGo C l es.length es s Q
  | [], es, fs, tr, ws, bs, s, hd, ht, hs, h => h
  | (o, anc) :: l, es, fs, tr, ws, bs, s, hd, ht, hs, h => by
    subst hd
    simp only [statOK, Bool.and_eq_true] at hs
    have hlen : ∀ x : Ent, (es ++ [x]).length = es.length + 1 := fun x => by simp
    simp only [drawQ] at h
    split at h
    · rename_i hm
      split at h
      · rename_i hg
        obtain ⟨e, h1, h2, h3⟩ := h
        obtain ⟨s1, s2, s3, s4⟩ := aop_still hm h1
        have hc := ent_cov (o := o) (s := s) (e := e) (aop_tw h1)
        have hst : (ent o s e).still := ⟨by simp [ent, s1, btms], by simp [ent, s2], s3, s4⟩
        refine .inl ⟨e, .op hg h1, h2, freeOf_of ht hc hs.1 (.inl hst), ?_⟩
        have := drawQ_go l (es ++ [ent o s e]) _ tr _ _ (s.apply o.d e) rfl (ht.still hc hst) hs.2 (by rw [hlen]; exact h3)
        rwa [hlen] at this
      · rename_i hg
        have hc := ent_cov (o := o) (s := s) (e := { v := .tup [] }) (fun t ht => by cases ht)
        have hst : (ent o s { v := .tup [] }).still := ⟨rfl, rfl, by
          cases hop : o.op <;> first | (rw [hop] at hm; cases hm; done) | simp [ent, AOp.rb, AOp.adr, hop], by
          cases hop : o.op <;> (try (rw [hop] at hm; cases hm; done)) <;> simp only [ent, AOp.rh, hop]
          all_goals (rw [hop] at hm; simpa [AOp.mem] using hm)⟩
        refine .inl ⟨{ v := .tup [] }, .skip hg, rfl, freeOf_of ht hc hs.1 (.inl hst), ?_⟩
        have := drawQ_go l (es ++ [ent o s { v := .tup [] }]) _ tr _ _ (s.apply o.d { v := .tup [] }) rfl (ht.still hc hst) hs.2 (by rw [hlen]; simpa [ent, keys] using h)
        rwa [hlen] at this
      · exact h.elim
    · rename_i hm
      rcases h with ⟨e, h1, h2, h3, h4⟩ | ⟨v, h', h1, h2, h3, h4⟩
      · have hc := ent_cov (o := o) (s := s) (e := e) (by
          cases h1 with
          | skip _ => intro t ht; cases ht
          | op _ he => exact aop_tw he
          | call _ _ _ _ _ _ => intro t ht; cases ht
          | callv _ _ _ _ _ _ _ => intro t ht; cases ht)
        refine .inl ⟨e, h1, h2, freeOf_of ht hc hs.1 (.inr h3), ?_⟩
        have := drawQ_go l (es ++ [ent o s e]) _ _ _ _ (s.apply o.d e) rfl (ht.mem hc) hs.2 (by rw [hlen]; exact h4)
        rwa [hlen] at this
      · have hc := ent_cov (o := o) (s := s) (e := { v := .tup [], hw := some h' }) (fun t ht => by cases ht)
        refine .inr ⟨v, h', h1, freeOf_of ht hc hs.1 (.inr h2), h3, ?_⟩
        rw [ht.writes.1, ht.writes.2]
        exact h4
theorem awp_draw {C : CallR} {Q : AR → AS → Prop} {l : List (AOper × List Nat)} {s : AS} (h : statOK s.dep [] l = true) (k : drawQ C l 0 [] [] [] s Q) : awp C (.draw l) s Q :=
  drawQ_go l [] [] [] [] [] s rfl .nil h k
end Go.Am
