import Derived.Test.YtmdpemgiidjbcaaMA
import Derived.Defers
import Derived.Recover
set_option linter.unusedSimpArgs false
set_option linter.unusedVariables false
set_option linter.unusedSimpArgs false
set_option linter.unusedVariables false
open Go.RowKit
namespace Go.Am
section
variable {P : Program} {γ γ' : Gh} {s : AS} {a : Act} {w w' : World} {o : Oper}

/-! ### 11. append -/
abbrev retL : Nat → Nat → Owner := fun i k => .sp (.ret i k)
def unret (to : Nat → Nat → Owner) : Owner → Owner
  | .sp (.ret i k) => to i k
  | o => o
theorem unret_turn (to : Nat → Nat → Owner) : Turn (unret to) := ⟨rfl, rfl, rfl, fun _ => rfl, fun _ => rfl⟩
/-- Rights that nobody in the frame holds are given to a place. -/
theorem SR.take (k : SR γ s a w) (to : Nat → Nat → Owner) : SR (γ.turn (unret to)) s a w := by
  have hf := unret_turn to
  refine { WR.turn hf (fun _ _ => rfl) k.toWR with tm := fun t v hv => ?_, bx := fun b cs hb => ?_, dep := k.dep, df := ⟨k.df.1, fun i d f vs hd hf' => ?_⟩ }
  · exact RelT.turn hf (k.tm t v hv)
  · exact CellsAt.turn hf (k.bx b cs hb) (hf.box b)
  · obtain ⟨gf, arr1, caps, arr2, h1, h2, h3, h4, h5, h6, h7⟩ := k.df.2 i d f vs hd hf'
    exact ⟨gf, arr1, caps, arr2, h1, h2, h3, h4, h5, fun j c v hc hv => (h6 j c v hc hv).mono (hf.mono γ w), fun j c v hc hv => (h7 j c v hc hv).mono (hf.mono γ w)⟩
theorem RelT.take {v : AV} {c : Value} (h : RelT γ w retL v c) (to : Nat → Nat → Owner) : RelT (γ.turn (unret to)) w to v c := RelT.turn (unret_turn to) h
/-- A value with rights of its own comes to stand in a temporary. -/
theorem SR.setR (k : SR γ s a w) (d : Option Nat) (v : AV) (c : Value) (hd : ∀ t, d = some t → t < a.tmps.size) (hv : RelT γ w retL v c) (ho : okd s.dep d v = true) :
    ∃ γ', Ext γ w γ' w ∧ SR γ' { s with tm := putd s.tm d v } (a.put d c) w :=
  ⟨_, (unret_turn (labd d)).ext γ w, (k.take (labd d)).setd d v c hd (hv.take _) ho⟩
/-- Spare cells written: they are claimed. -/
def Gh.claimR (γ : Gh) (b p q : Nat) : Gh := { γ with own := fun b' j => if b' = b ∧ p ≤ j ∧ j < q then .claim else γ.own b' j }
theorem SR.claimR (k : SR γ s a w) {b p q : Nat} {arr arr' : Array Value} {ty : TypeId} (hb : w.heap[b]? = some (.cells arr ty (0, 0))) (hpq : p < q) (hr : ∀ j, p ≤ j → j < q → γ.own b j = .sp (.ret 0 0)) (hs : arr'.size = arr.size)
    (hsame : ∀ j, (j < p ∨ q ≤ j) → arr'[j]? = arr[j]?) : Ext γ w (γ.claimR b p q) (w.setRow b arr') ∧ SR (γ.claimR b p q) s a (w.setRow b arr') := by
  have hne : ∀ b' j x, γ.own b' j = x → x ≠ .sp (.ret 0 0) → ¬ (b' = b ∧ p ≤ j ∧ j < q) := by
    rintro b' j x h1 h2 ⟨rfl, h3, h4⟩
    rw [hr j h3 h4] at h1
    exact h2 h1.symm
  have hold : ∀ b' j x, γ.own b' j = x → x ≠ .sp (.ret 0 0) → (γ.claimR b p q).own b' j = x := by
    intro b' j x h1 h2
    show (if _ then _ else _) = _
    rw [if_neg (hne b' j x h1 h2)]
    exact h1
  have hcell : ∀ b' j, ¬ (b' = b ∧ p ≤ j ∧ j < q) → (w.setRow b arr').cell? ⟨b', j, none⟩ = w.cell? ⟨b', j, none⟩ := by
    intro b' j h
    by_cases e : b' = b
    · subst e
      rw [cell_setRow_same _ _ _ _ _ _ _ hb]
      have hj : j < p ∨ q ≤ j := by
        rcases Nat.lt_or_ge j p with h1 | h1
        · exact .inl h1
        · rcases Nat.lt_or_ge j q with h2 | h2
          · exact absurd ⟨rfl, h1, h2⟩ h
          · exact .inr h2
      rw [hsame j hj]
      simp [World.cell?, hb]
    · exact cell_setRow_ne _ _ _ _ _ e
  have hE : Ext γ w (γ.claimR b p q) (w.setRow b arr') := by
    refine ⟨⟨fun b' j h => ⟨hold b' j _ h (by simp), hcell b' j (hne b' j _ h (by simp))⟩, fun b' ar t fr h => ?_, fun _ _ => rfl, Nat.le_refl _⟩, fun b' j h => ⟨hold b' j _ h (by simp), hcell b' j (hne b' j _ h (by simp))⟩, rfl, rfl, by simp⟩
    by_cases e : b' = b
    · subst e
      rw [hb] at h
      cases h
      exact ⟨arr', setRow_heap w _ _ _ _ _ hb, hs⟩
    · exact ⟨ar, by rw [setRow_other _ _ _ _ e]; exact h, rfl⟩
  have hn0 : γ.n0 ≤ b := by
    rcases Nat.lt_or_ge b γ.n0 with h | h
    · have h1 := k.ownb b p h
      rw [hr p (Nat.le_refl _) hpq] at h1
      cases h1
    · exact h
  have hall : ∀ b' all, (∀ j, γ.own b' j = all) → all ≠ .sp (.ret 0 0) → b' ≠ b := by
    rintro b' all h1 h2 rfl
    exact h2 ((h1 p).symm.trans (hr p (Nat.le_refl _) hpq))
  have hcells : ∀ {b' : Nat} {l : Nat → Loc} {all : Owner} {cs : List AV}, (∀ j, l j ≠ .ret 0 0) → all ≠ .sp (.ret 0 0) → CellsAt γ w b' (fun k => .sp (l k)) all cs → CellsAt (γ.claimR b p q) (w.setRow b arr') b' (fun k => .sp (l k)) all cs := by
    rintro b' l all cs hl hal ⟨ar, t, q1, q2, q3, q4, q5, q6⟩
    have hbb := hall b' all q5 hal
    exact ⟨ar, t, by rw [setRow_other _ _ _ _ hbb]; exact q1, q2, fun j c v hc hv => (q3 j c v hc hv).mono hE.toMono (fun b'' j' h => hold _ _ _ h (by simpa using hl j)), q4, fun j => hold _ _ _ (q5 j) hal, q6⟩
  refine ⟨hE, { below := below_write k.below hn0, base := by show γ.n0 ≤ _; simpa using k.base, ownb := fun b' j h => hold _ _ _ (k.ownb b' j h) (by simp), fresh := fun b' j h => hold _ _ _ (k.fresh b' j (by simpa using h)) (by simp), nh := k.nh, hp := fun id ob ho => ?_, tm := fun t v hv => ?_, bx := fun b' bs hb' => ?_, dep := k.dep, df := ⟨k.df.1, fun i d f vs hd hf' => ?_⟩ }⟩
  · have h := k.hp id ob ho
    cases ob with
    | obj cs => exact hcells (by simp) (by simp) h
    | dead => trivial
    | map es =>
      obtain ⟨ms, clock, q1, q2, q3, q4, q5⟩ := h
      have hbb := hall _ _ q4 (by simp)
      exact ⟨ms, clock, by show (w.setRow b arr').heap[γ.blk id]? = _; rw [setRow_other _ _ _ _ hbb]; exact q1, q2, fun i k v m he hm => ⟨(q3 i k v m he hm).1.mono hE.toMono, (q3 i k v m he hm).2.mono hE.toMono⟩, fun j => hold _ _ _ (q4 j) (by simp), q5⟩
  · exact (k.tm t v hv).mono hE.toMono (fun i j b'' j' h => hold _ _ _ h (by simp)) (fun _ _ _ => rfl)
  · exact hcells (by simp) (by simp) (k.bx b' bs hb')
  · obtain ⟨gf, arr1, caps, arr2, h1, h2, h3, h4, h5, h6, h7⟩ := k.df.2 i d f vs hd hf'
    exact ⟨gf, arr1, caps, arr2, h1, h2, h3, h4, h5, fun j c v hc hv => (h6 j c v hc hv).mono hE.toMono, fun j c v hc hv => (h7 j c v hc hv).mono hE.toMono⟩
/-- A new row, part of it claimed, the rest spare. -/
def Gh.newPart (γ : Gh) (n p : Nat) : Gh := { γ with own := fun b j => if b = n then (if j < p then .claim else .sp (.ret 0 0)) else γ.own b j }
theorem Grew.newPart (h : ∀ b j, w.heap.size ≤ b → γ.own b j = .dead) (p : Nat) (ob : Obj) : Grew γ w (γ.newPart w.heap.size p) (w.drew.alloc ob) := by
  have hne : ∀ b j x, x ≠ .dead → γ.own b j = x → b < w.heap.size := by
    intro b j x hx hb
    rcases Nat.lt_or_ge b w.heap.size with hl | hl
    · exact hl
    · rw [h b j hl] at hb
      exact absurd hb.symm hx
  have hheap : ∀ b, b < w.heap.size → (w.drew.alloc ob).heap[b]? = w.heap[b]? := fun b hb => Below.heap_alloc w.drew ob b hb
  have hcell : ∀ b j, b < w.heap.size → (w.drew.alloc ob).cell? ⟨b, j, none⟩ = w.cell? ⟨b, j, none⟩ := fun b j hb => World.cell?_of_block (w := w) (hheap b hb)
  have hold : ∀ b j x, x ≠ .dead → γ.own b j = x → (γ.newPart w.heap.size p).own b j = x := by
    intro b j x hx hb
    have := hne b j x hx hb
    show (if _ then _ else _) = _
    rw [if_neg (by omega)]
    exact hb
  refine ⟨⟨⟨fun b j hb => ⟨hold b j _ (by simp) hb, hcell b j (hne b j _ (by simp) hb)⟩, fun b arr ty fr hb => ⟨arr, by rw [hheap b (lt_of_heap hb)]; exact hb, rfl⟩, fun _ _ => rfl, Nat.le_refl _⟩, fun b j hb => ⟨hold b j _ (by simp) hb, hcell b j (hne b j _ (by simp) hb)⟩, rfl, rfl, by simp⟩, fun b hb => ⟨fun j => ?_, hheap b hb⟩, fun b j hb => ?_, (Below.refl _ _).drew.alloc (Nat.le_refl _) ob, rfl, rfl⟩
  · show (if _ then _ else _) = _
    rw [if_neg (by omega)]
  · simp at hb
    show (if _ then _ else _) = _
    rw [if_neg (by omega)]
    exact h b j (by omega)
/-- A slice over a row the first part of which is claimed. -/
theorem Rel.of_pre {sz cap b : Nat} {es : List AV} {arr : Array Value} {ty : TypeId} (hs : Sized sz es) (hb : w.heap[b]? = some (.cells arr ty (0, 0))) (hc : ∀ (m : Nat) (x : AV), (es.flatMap AV.cells)[m]? = some x → ∃ y, arr[m]? = some y ∧ x.one = true ∧ Rel γ w x y)
    (ho : ∀ j, j < es.length * sz → γ.own b j = .claim) (hm : es.length ≤ 281474976710656) (hcap : es.length ≤ cap) {n : Nat} (hn : n = es.length) : Rel γ w (.sl sz es) (.slice (some ⟨b, 0, none⟩) n cap) := by
  subst hn
  have key : ∀ (i : Nat) (e : AV) (j : Nat) (x : AV), es[i]? = some e → e.cells[j]? = some x → i * sz + j < es.length * sz ∧ ∃ y, arr[i * sz + j]? = some y ∧ x.one = true ∧ Rel γ w x y := by
    intro i e j x hi hj
    have hj' : j < sz := by rw [← hs i e hi]; exact (List.getElem?_eq_some_iff.1 hj).1
    have h1 := flat_at hs hi hj'
    rw [hj] at h1
    refine ⟨?_, hc _ x h1⟩
    rw [← flat_len hs]
    exact (List.getElem?_eq_some_iff.1 h1).1
  refine .sl sz es (some ⟨b, 0, none⟩) cap (fun i j => arr.getD (i * sz + j) undef) hs (fun _ => ⟨b, 0, rfl, fun i e j x hi hj => ⟨?_, ?_⟩⟩) (by simp) (fun i e j x hi hj => ?_) (fun i e j x hi hj => (key i e j x hi hj).2.choose_spec.2.1) hcap hm
  · obtain ⟨_, y, h1, _, h2⟩ := key i e j x hi hj
    simp only [World.cell?, hb, Nat.zero_add, Option.isSome_none, Bool.false_eq_true, if_false, h1, Array.getD_eq_getD_getElem?, Option.getD_some]
  · rw [Nat.zero_add]
    exact ho _ (key i e j x hi hj).1
  · obtain ⟨_, y, h1, _, h2⟩ := key i e j x hi hj
    simpa [Array.getD_eq_getD_getElem?, h1] using h2
theorem sized_append {sz : Nat} {l l' : List AV} (h : Sized sz l) (h' : Sized sz l') : Sized sz (l ++ l') := by
  intro i e he
  rw [List.getElem?_append] at he
  split at he
  · exact h i e he
  · exact h' _ e he
theorem run_append_roomT (t ty e : TypeId) (i : TypeInfo) (ht : P.underlying t = some (.slice e)) (hi : P.info? e = some i)
    (g sLen sCap : Nat) (cur : Array Value) (et : TypeId) (hg : w.heap[g]? = some (.cells cur et (0, 0)))
    (x : Addr) (m c : Nat) (news : List Value) (hl : news.length = m * i.size) (hnews : ∀ j u, news[j]? = some u → w.cell? (x.add j) = some u) (h1 : ∀ u ∈ news, u.oneCell' = true)
    (hroom : sLen + m ≤ sCap) (hfit : sLen * i.size + news.length ≤ cur.size) :
    (Builtin.append_ #[t, t] ty #[.slice (some ⟨g, 0, none⟩) sLen sCap, .slice (some x) m c]).run P w =
      .ok (.slice (some ⟨g, 0, none⟩) (sLen + m) sCap) (w.setRow g (cur.toList.take (sLen * i.size) ++ news ++ cur.toList.drop (sLen * i.size + news.length)).toArray) := by
  have hf := run_firstCells_some (P := P) w i.size m x m c news hl hnews
  have hst := run_storeCells_at P g (sLen * i.size) et news 0 cur w hg (by simpa using hfit) h1
  simp only [Nat.add_zero] at hst
  simp [Builtin.append_, run_underlying ht, sizeOf, typeInfo, hi, Builtin.lenOf, hroom, hf, Addr.add_lit, hst]
theorem run_append_none (t ty e : TypeId) (i : TypeInfo) (ht : P.underlying t = some (.slice e)) (hi : P.info? e = some i) (ad : Option Addr) (n cap : Nat) (hn : n ≤ cap) (hnil : ad = none → cap = 0) (x : Option Addr) (c : Nat) :
    (Builtin.append_ #[t, t] ty #[.slice ad n cap, .slice x 0 c]).run P w = .ok (.slice ad n cap) w := by
  cases ad <;> cases x <;> simp [Builtin.append_, run_underlying ht, sizeOf, typeInfo, hi, Builtin.lenOf, Builtin.firstCells, hn, loadCells, loadCellsFrom, storeCells]
theorem xsl_resize {o' : Owner} {sz sz' : Nat} {l : List AV} {c : Value} (h : sz' = sz ∨ l = []) (hr : RelX γ w o' (.xsl sz' l) c) : RelX γ w o' (.xsl sz l) c := by
  rcases h with rfl | rfl
  · exact hr
  · obtain ⟨h1, h2⟩ := hr
    obtain ⟨ad, cap, e1, hl, hm, hn, hz, hne⟩ := h1.slv
    refine ⟨?_, ?_⟩
    · rw [e1]
      exact .sl sz [] ad cap (fun _ _ => undef) (by simp) (by simp) hn (by simp) (by simp) hl hm
    · rcases h2 with h2 | ⟨b, cap', arr, ty, e2, hb, hfit, h0, hsp⟩
      · exact .inl h2
      · have h0' := h0 rfl
        subst h0'
        exact .inr ⟨b, 0, arr, ty, e2, hb, by simp, fun _ => rfl, fun j h1 h2 => by simp at h2⟩
theorem sl_resize {sz sz' : Nat} {l : List AV} {c : Value} (h : sz' = sz ∨ l = []) (hr : Rel γ w (.sl sz' l) c) : Rel γ w (.sl sz l) c := by
  rcases h with rfl | rfl
  · exact hr
  · obtain ⟨ad, cap, e1, hl, hm, hn, hz, hne⟩ := hr.slv
    rw [e1]
    exact .sl sz [] ad cap (fun _ _ => undef) (by simp) (by simp) hn (by simp) (by simp) hl hm
theorem asX_rel {sz sz1 : Nat} {v0 : AV} {l : List AV} (h : v0.asX sz = .xsl sz1 l) {o' : Nat → Nat → Owner} {c : Value} (hr : RelT γ w o' v0 c) : RelX γ w (o' 0 0) (.xsl sz1 l) c := by
  cases v0 with
  | nsl =>
    cases h
    have e := Rel.nsl_ (show Rel γ w .nsl c from hr)
    subst e
    exact ⟨.sl sz [] none 0 (fun _ _ => undef) (by simp) (by simp) (by simp) (by simp) (by simp) (by simp) (by simp), .inl rfl⟩
  | xsl s1 l1 => cases h; exact hr
  | _ => cases h
theorem asS_rel {sz sz2 : Nat} {v0 : Option AV} {l : List AV} (h : v0.map (AV.asS sz) = some (.sl sz2 l)) {c : Value} (hr : ∀ v, v0 = some v → Rel γ w v c) : Rel γ w (.sl sz2 l) c := by
  cases v0 with
  | none => cases h
  | some v =>
    have := hr v rfl
    simp only [Option.map_some, Option.some.injEq] at h
    cases v with
    | nsl =>
      cases h
      have e := Rel.nsl_ this
      subst e
      exact .sl sz [] none 0 (fun _ _ => undef) (by simp) (by simp) (by simp) (by simp) (by simp) (by simp) (by simp)
    | sl s1 l1 => cases h; exact this
    | _ => cases h
theorem s_app {t e : TypeId} {os ox : Operand} {xs x : X} {sz by_ : Nat} {z : AV} (hop : o.op = .call { callee := .builtin .append, args := #[os, ox], argTypes := #[t, t] }) (he : elT P t = some e) (hsz : szT P e = some sz) (hby : byT P e = some by_) (hz : zeT P e = some z) (h0 : 0 < sz) (hb0 : 0 < by_)
    (hxs : cmpX os = some xs) (hx : cmpX ox = some x) (hd : ∀ t, o.dst = some t → t < a.tmps.size) (k : SR γ s a w) {ef : Eff} (hv : aop o.dst (.app xs x sz by_) s.view = some ef) : OpOK P γ s o ef a w := by
  have hu := elT_spec he
  obtain ⟨i, cz, hi, hzi, hcz, hsize, _, hrc⟩ := zeT_spec (γ := γ) (w := w) hz
  obtain ⟨i2, hi2, hb2⟩ := byT_spec hby w
  rw [hi] at hi2
  cases hi2
  have hsz' : i.size = sz := by
    simp [szT, hi] at hsz
    omega
  have hzs : cz.cells.size = sz := by
    obtain ⟨hzr, hzl⟩ := dg_rel hrc (cmpV_rel (γ := γ) (w := w) hcz fun _ => .dead).2
    rw [hzr.cells_.1, hzl, ← hsize, hsz']
  simp only [aop] at hv
  split at hv
  · rename_i v0 sz2 l' h1 h2
    split at hv
    rotate_left
    · cases hv
    rename_i sz1 l hv0
    split at hv
    · rename_i c1 c2 c3
      cases hv
      have c1 : sz1 = sz ∨ l = [] := by
        rcases Bool.or_eq_true_iff.1 c1 with h | h
        · exact .inl (Nat.eq_of_beq_eq_true h)
        · exact .inr (List.isEmpty_iff.1 h)
      have c2 : sz2 = sz ∨ l' = [] := by
        rcases Bool.or_eq_true_iff.1 c2 with h | h
        · exact .inl (Nat.eq_of_beq_eq_true h)
        · exact .inr (List.isEmpty_iff.1 h)
      have c3 := of_decide_eq_true c3
      have hnews := sl_resize c2 (asS_rel h2 fun v hv => val_rel k hx hv)
      obtain ⟨γ1, q1, q2, q3, _, _, _, _⟩ := k.handed hxs h1 retL
      have hxl : RelX γ1 w (.sp (.ret 0 0)) (.xsl sz l) (a.eval os) := xsl_resize c1 (asX_rel hv0 q3)
      have hnews1 : Rel γ1 w (.sl sz l') (a.eval ox) := hnews.mono q1.toMono
      obtain ⟨adx, capx, nw, ex, hnl, hnil, hncell, hnr⟩ := news_rel hnews1 h0
      obtain ⟨ol, hol, hor, hos⟩ := olds_rel hxl h0
      have hexec : ∀ (c : Value) (w1 : World), (Builtin.append_ #[t, t] o.type #[a.eval os, a.eval ox]).run P w = .ok c w1 → (execOp a.eval o).run P w = .ok (.value c) w1 := by
        intro c w1 h
        simp [execOp, hop, resolve, invoke, builtin, Sem.run_bind, h]
      have hsl : Sized sz l := (xsl_spec hxl).elim (fun h => by rw [h.2]; intro i e he; simp at he) fun ⟨_, _, _, _, _, _, _, _, _, _, h, _⟩ => h
      have hsl' : Sized sz l' := by
        obtain ⟨_, _, _, _, _, _, h, _⟩ := hnews1.slv
        exact h
      have hone : ∀ u ∈ nw, u.oneCell' = true := by
        intro u hu
        obtain ⟨j, hj, rfl⟩ := List.getElem_of_mem hu
        have hj' : j < (l'.flatMap AV.cells).length := by rw [flat_len hsl', ← hnl]; exact hj
        have hr := hnr.2 j _ _ (List.getElem?_eq_getElem hj') (show nw.toArray[j]? = some nw[j] by simp [hj])
        exact (hr.2.one_ hr.1).1
      have hlenb : l.length + l'.length ≤ 140737488355328 := Nat.le_trans (Nat.le_mul_of_pos_right _ hb0) c3
      have hflat : (l ++ l').flatMap AV.cells = l.flatMap AV.cells ++ l'.flatMap AV.cells := by simp
      have hcomb : ∀ (arr : Array Value), (∀ j, j < (ol ++ nw).length → arr[j]? = (ol ++ nw)[j]?) → ∀ (m : Nat) (x : AV), ((l ++ l').flatMap AV.cells)[m]? = some x → ∃ y, arr[m]? = some y ∧ x.one = true ∧ Rel γ1 w x y := by
        intro arr harr m x hm
        rw [hflat] at hm
        have hml : m < (ol ++ nw).length := by
          have := (List.getElem?_eq_some_iff.1 hm).1
          simp only [List.length_append, flat_len hsl, flat_len hsl'] at this
          simp only [List.length_append, hol, hnl]
          exact this
        rw [harr m hml]
        rcases Nat.lt_or_ge m (l.flatMap AV.cells).length with h | h
        · rw [List.getElem?_append_left h] at hm
          have hmo : m < ol.length := by rw [hol, ← flat_len hsl]; exact h
          rw [List.getElem?_append_left hmo]
          have := hor.2 m x ol[m] hm (by simp [hmo])
          exact ⟨_, List.getElem?_eq_getElem hmo, this⟩
        · rw [List.getElem?_append_right h] at hm
          rw [flat_len hsl] at h hm
          rw [List.getElem?_append_right (by rw [hol]; exact h), hol]
          have hmn : m - l.length * sz < nw.length := by
            rw [hnl, ← flat_len hsl']
            exact (List.getElem?_eq_some_iff.1 hm).1
          have := hnr.2 _ x nw[m - l.length * sz] hm (by simp [hmn])
          exact ⟨_, List.getElem?_eq_getElem hmn, this⟩
      -- a state in which what was grown is a slice with rights of its own
      have fin : ∀ (γ2 : Gh) (w2 : World) (c : Value), (Builtin.append_ #[t, t] o.type #[a.eval os, a.eval ox]).run P w = .ok c w2 → Ext γ1 w γ2 w2 → SR γ2 { s with tm := puts s.tm (left xs v0) } a w2 → RelX γ2 w2 (.sp (.ret 0 0)) (.xsl sz (l ++ l')) c → OpOK P γ s o { v := .xsl sz (l ++ l'), tw := left xs v0 } a w := by
        intro γ2 w2 c hrun hE k2 hrel
        obtain ⟨γ3, r1, r2⟩ := k2.setR o.dst (.xsl sz (l ++ l')) c hd hrel rfl
        exact OpOK.value (hexec c w2 hrun) ((q1.trans hE).trans r1) r2
      by_cases hl0 : l' = []
      · subst hl0
        obtain ⟨ad, cap, e1, hcap, hm, hn, hzz, _⟩ := hxl.1.slv
        have hrun := run_append_none (P := P) (w := w) t o.type e i hu hi ad l.length cap hcap hn adx capx
        rw [ex, e1] at fin
        exact fin γ1 w _ hrun (Ext.refl _ _) q2 (by simpa [e1] using hxl)
      have hn0 : 0 < l'.length := List.length_pos_iff.2 hl0
      cases adx with
      | none => exact absurd (hnil rfl) hl0
      | some adx =>
      rw [ex] at fin
      have hnc := hncell adx rfl
      -- it grows
      have grow : ∀ (old : Nat), (Builtin.append_ #[t, t] o.type #[a.eval os, .slice (some adx) l'.length capx]).run P w = .ok (.slice (some ⟨w.heap.size, 0, none⟩) (l.length + l'.length) (grownCap w (l.length + l'.length) old e))
          (w.drew.alloc (.cells ((ol ++ nw).toArray ++ Builtin.zeroCells cz.cells (grownCap w (l.length + l'.length) old e - (l.length + l'.length))) e)) → OpOK P γ s o { v := .xsl sz (l ++ l'), tw := left xs v0 } a w := by
        intro old hrun
        have hge := grownCap_ge w (l.length + l'.length) old e
        have g := Grew.newPart q2.fresh ((l.length + l'.length) * sz) (.cells ((ol ++ nw).toArray ++ Builtin.zeroCells cz.cells (grownCap w (l.length + l'.length) old e - (l.length + l'.length))) e)
        have hb : (w.drew.alloc (.cells ((ol ++ nw).toArray ++ Builtin.zeroCells cz.cells (grownCap w (l.length + l'.length) old e - (l.length + l'.length))) e)).heap[w.heap.size]? = some (.cells ((ol ++ nw).toArray ++ Builtin.zeroCells cz.cells (grownCap w (l.length + l'.length) old e - (l.length + l'.length))) e (0, 0)) := heap_alloc_new w.drew _
        refine fin _ _ _ hrun g.ext (q2.grew g) ⟨?_, .inr ⟨w.heap.size, _, _, e, by rw [List.length_append], hb, ?_, fun h => by rw [List.length_append] at h; omega, fun j h1 h2 => ?_⟩⟩
        · refine Rel.of_pre (sized_append hsl hsl') hb (fun m x hm => ?_) (fun j hj => ?_) (by rw [List.length_append]; omega) (by rw [List.length_append]; exact hge) (by rw [List.length_append])
          · obtain ⟨y, r1, r2, r3⟩ := hcomb ((ol ++ nw).toArray ++ Builtin.zeroCells cz.cells (grownCap w (l.length + l'.length) old e - (l.length + l'.length))) (fun j hj => by
              rw [Array.getElem?_append_left (by simpa using hj)]
              simp) m x hm
            exact ⟨y, r1, r2, r3.mono g.ext.toMono⟩
          · show (if w.heap.size = w.heap.size then _ else _) = _
            rw [if_pos rfl, if_pos (by rw [← List.length_append]; exact hj)]
        · simp only [Array.size_append, List.size_toArray, List.length_append, size_zeroCells, hzs, hol, hnl]
          rw [← Nat.add_mul, ← Nat.add_mul]
          apply Nat.le_of_eq
          congr 1
          omega
        · show (if w.heap.size = w.heap.size then _ else _) = _
          rw [if_pos rfl, if_neg (by rw [List.length_append] at h1; omega)]
      have hb48 : (l.length + l'.length) * i.bytes ≤ 140737488355328 := by rw [hb2]; exact c3
      rcases hos with ⟨e1, rfl, rfl⟩ | ⟨b, cap, arr, ty, e1, hb, hfit, hcap, hc0, hsp, hcl, htake⟩
      · refine grow 0 ?_
        rw [e1]
        have := run_append_nil (P := P) w t o.type e i cz hu hi hzi adx l'.length capx nw (by rw [hnl, hsz']) hnc hn0 (by omega) (by simp only [List.length_nil, Nat.zero_add] at hb48; omega)
        simpa using this
      · by_cases hroom : l.length + l'.length ≤ cap
        · have hfits : l.length * sz + nw.length ≤ arr.size := by
            rw [hnl, ← Nat.add_mul]
            exact Nat.le_trans (Nat.mul_le_mul_right _ hroom) hfit
          have hrun := run_append_roomT (P := P) (w := w) t o.type e i hu hi b l.length cap arr ty hb adx l'.length capx nw (by rw [hnl, hsz']) hnc hone hroom (by rw [hsz']; exact hfits)
          rw [hsz'] at hrun
          have hpq : l.length * sz < (l.length + l'.length) * sz := by
            rw [Nat.add_mul]
            have := Nat.mul_pos hn0 h0
            omega
          have hsz2 : (arr.toList.take (l.length * sz) ++ nw ++ arr.toList.drop (l.length * sz + nw.length)).toArray.size = arr.size := by
            simp
            omega
          have hl1 : (arr.toList.take (l.length * sz)).length = l.length * sz := by simp; omega
          obtain ⟨r1, r2⟩ := q2.claimR (b := b) (p := l.length * sz) (q := (l.length + l'.length) * sz) hb hpq (fun j h1 h2 => hsp j h1 (Nat.lt_of_lt_of_le h2 (Nat.mul_le_mul_right _ hroom))) hsz2 (fun j hj => by
            simp only [List.getElem?_toArray, List.append_assoc]
            rcases hj with hj | hj
            · rw [List.getElem?_append_left (by omega), List.getElem?_take, if_pos hj]
              simp
            · rw [Nat.add_mul] at hj
              rw [List.getElem?_append_right (by omega), hl1, List.getElem?_append_right (by omega), List.getElem?_drop]
              simp only [Array.getElem?_toList]
              congr 1
              omega)
          rw [e1] at fin
          have hb' : (w.setRow b (arr.toList.take (l.length * sz) ++ nw ++ arr.toList.drop (l.length * sz + nw.length)).toArray).heap[b]? = some (.cells (arr.toList.take (l.length * sz) ++ nw ++ arr.toList.drop (l.length * sz + nw.length)).toArray ty (0, 0)) := setRow_heap w _ _ _ _ _ hb
          refine fin _ _ _ hrun r1 r2 ⟨?_, .inr ⟨b, cap, _, ty, by rw [List.length_append], hb', by rw [hsz2]; exact hfit, fun h => by rw [List.length_append] at h; omega, fun j h1 h2 => ?_⟩⟩
          · refine Rel.of_pre (sized_append hsl hsl') hb' (fun m x hm => ?_) (fun j hj => ?_) (by rw [List.length_append]; omega) (by rw [List.length_append]; exact hroom) (by rw [List.length_append])
            · obtain ⟨y, s1, s2, s3⟩ := hcomb (arr.toList.take (l.length * sz) ++ nw ++ arr.toList.drop (l.length * sz + nw.length)).toArray (fun j hj => by
                rw [htake]
                simp only [List.getElem?_toArray]
                rw [List.getElem?_append_left hj]) m x hm
              exact ⟨y, s1, s2, s3.mono r1.toMono⟩
            · show (if _ then _ else _) = _
              by_cases h : j < l.length * sz
              · rw [if_neg (by omega)]
                exact hcl j h
              · rw [if_pos ⟨rfl, by omega, by rw [← List.length_append]; exact hj⟩]
          · show (if _ then _ else _) = _
            rw [if_neg (by rw [List.length_append] at h1; omega)]
            refine hsp j ?_ h2
            rw [List.length_append, Nat.add_mul] at h1
            omega
        · refine grow cap ?_
          rw [e1]
          have hslc := nextslicecap_le (show cap < l.length + l'.length by omega)
          have := run_append_grow (P := P) w t o.type e i cz hu hi hzi ⟨b, 0, none⟩ l.length cap ol (by rw [hol, hsz']) (fun j v hj => by
            have hjl : j < l.length * sz := by rw [← hol]; exact (List.getElem?_eq_some_iff.1 hj).1
            rw [add_at, Nat.zero_add]
            rw [← htake, List.getElem?_take, if_pos hjl] at hj
            simp [World.cell?, hb]
            simpa using hj) adx l'.length capx nw (by rw [hnl, hsz']) hnc (by omega) (by omega) (by
            have := Nat.mul_le_mul_right i.bytes hslc
            rw [Nat.mul_assoc] at this
            omega)
          simpa using this
    · cases hv
  · cases hv
end
end Go.Am

set_option linter.unusedSimpArgs false
set_option linter.unusedVariables false
open Go.RowKit
namespace Go.Am
section
variable {P : Program} {γ γ' : Gh} {s : AS} {a : Act} {w w' : World} {o : Oper}

/-! ### 12. Maps, arrays on the heap, deferred calls -/
theorem Rel.map_ {id : Nat} {c : Value} (h : Rel γ w (.map id) c) : id < γ.nh ∧ c = .map (some (γ.blk id)) := by
  cases h with
  | map _ h => exact ⟨h, rfl⟩
theorem s_mkmap {t : TypeId} (hop : o.op = .makeMap t none) (hd : ∀ t, o.dst = some t → t < a.tmps.size) (k : SR γ s a w) : OpOK P γ s o { v := .map s.hp.length, hw := some (s.hp ++ [.map []]) } a w := by
  obtain ⟨q1, q2⟩ := k.newObj (.map #[] 0) (.map []) (by
    unfold HR
    rw [newObj_blk]
    exact ⟨#[], 0, heap_alloc_new w _, rfl, by simp, fun j => newObj_own _ _ _, k.base⟩)
  refine OpOK.value (c := .map (some w.heap.size)) ?_ q1 ?_
  · simp only [execOp, hop]
    refine run_v ?_
    simp [Instr.makeMap, Sem.run_bind, Go.newObj]
    rfl
  · have := q2.setd o.dst (.map s.hp.length) (.map (some w.heap.size)) hd (by
      have : Rel (γ.newObj w.heap.size) (w.alloc (.map #[] 0)) (.map γ.nh) (.map (some ((γ.newObj w.heap.size).blk γ.nh))) := .map _ (Nat.lt_succ_self _)
      rw [newObj_blk] at this
      rw [← k.nh]
      exact this.t) rfl
    exact this

theorem keyT_spec {t : TypeId} {st : Bool} (h : keyT P t = some st) : ∃ d, P.underlying t = some d ∧ ((st = true ∧ d = .string) ∨ (st = false ∧ ∃ k, d = .int k)) := by
  unfold keyT at h
  split at h
  · cases h; exact ⟨_, by assumption, .inl ⟨rfl, rfl⟩⟩
  · cases h; exact ⟨_, by assumption, .inr ⟨rfl, _, rfl⟩⟩
  · cases h
theorem sameBits_rel {x y : AV} {c c' : Value} (h : sameKey x y = some true) (hx : Rel γ w x c) (hy : Rel γ w y c') : Instr.sameBits 10000 c' c = true := by
  cases x <;> cases y <;> simp [sameKey] at h
  · rw [hx.int_, hy.int_]
    obtain ⟨rfl, rfl⟩ := h
    simp [Instr.sameBits]
  · rw [hx.str_, hy.str_]
    have := (MapKept.bytes_beq _ _).1 h
    subst this
    simp only [Instr.sameBits]
    exact h
def kindOf (st : Bool) (d : TypeDesc) : Prop := (st = true ∧ d = .string) ∨ (st = false ∧ ∃ k, d = .int k)
theorem sameNow_rel {st : Bool} {d : TypeDesc} (hd : kindOf st d) {x y : AV} {c c' : Value} {b : Bool} (h : sameKey x y = some b) (hk : keyA st x = true) (hx : Rel γ w x c) (hy : Rel γ w y c') : Instr.sameNow d c c' = some b := by
  cases x <;> cases y <;> simp [sameKey] at h
  · rw [hx.int_, hy.int_]
    rcases hd with ⟨rfl, rfl⟩ | ⟨rfl, k, rfl⟩
    · simp [keyA] at hk
    · simp [Instr.sameNow, h]
  · rw [hx.str_, hy.str_]
    rcases hd with ⟨rfl, rfl⟩ | ⟨rfl, k, rfl⟩
    · simp [Instr.sameNow, h]
    · simp [keyA] at hk
theorem findA_rel {st : Bool} {d : TypeDesc} (hd : kindOf st d) {x : AV} {c : Value} (hk : keyA st x = true) (hx : Rel γ w x c) : ∀ {es : List (AV × AV)} {ms : List MapEntry} {i : Nat} {r : Option (Nat × AV)}, es.length = ms.length → (∀ (j : Nat) (k v : AV) (m : MapEntry), es[j]? = some (k, v) → ms[j]? = some m → Rel γ w k m.key ∧ Rel γ w v m.val) →
    findA x es i = some r → (r = none ∧ Instr.findNow d c ms i = some none) ∨ ∃ j v m, r = some (i + j, v) ∧ ms[j]? = some m ∧ Rel γ w v m.val ∧ Instr.findNow d c ms i = some (some (i + j, m.val)) ∧ Instr.sameBits 10000 m.key c = true ∧ j < es.length
  | [], [], i, r, _, _, h => by
    simp [findA] at h
    exact .inl ⟨h.symm, rfl⟩
  | (k, v) :: es, m :: ms, i, r, hl, hr, h => by
    obtain ⟨h1, h2⟩ := hr 0 k v m (by simp) (by simp)
    simp only [findA] at h
    split at h
    · rename_i hs
      cases h
      refine .inr ⟨0, v, m, rfl, by simp, h2, ?_, sameBits_rel hs hx h1, by simp⟩
      simp only [Instr.findNow, sameNow_rel hd hs hk hx h1, Nat.add_zero]
    · rename_i hs
      rcases findA_rel hd hk hx (by simpa using hl) (fun j k v m hj hm => hr (j + 1) k v m (by simpa using hj) (by simpa using hm)) h with ⟨h3, h4⟩ | ⟨j, v', m', h3, h4, h5, h6, h7, h8⟩
      · refine .inl ⟨h3, ?_⟩
        simp only [Instr.findNow, sameNow_rel hd hs hk hx h1, h4]
      · refine .inr ⟨j + 1, v', m', by rw [h3]; congr 2; omega, by simpa using h4, h5, ?_, h7, by simp; omega⟩
        simp only [Instr.findNow, sameNow_rel hd hs hk hx h1, h6]
        congr 3
        omega
    · cases h
  | [], _ :: _, _, _, hl, _, _ => by simp at hl
  | _ :: _, [], _, _, hl, _, _ => by simp at hl
theorem run_getMap {r : Nat} {ms : Array MapEntry} {clock : Nat} (h : w.heap[r]? = some (.map ms clock)) : (getObj r).run P w = .ok (.map ms clock) w := by
  simp [getObj, Sem.run, h]
theorem run_checkKey' {t : TypeId} {d : TypeDesc} {st : Bool} (hu : P.underlying t = some d) (hd : kindOf st d) (b : Bool) (c : Value) : (Instr.checkKey b 10000 t c).run P w = .ok () w := by
  have : ∀ n, (Instr.checkKey b (n + 1) t c).run P w = .ok () w := by
    intro n
    rcases hd with ⟨rfl, rfl⟩ | ⟨rfl, k, rfl⟩
    · cases c <;> simp [Instr.checkKey, run_underlying hu, Sem.run_bind]
    · cases c <;> simp [Instr.checkKey, run_underlying hu, Sem.run_bind]
  exact this 9999
theorem run_findKey' {t : TypeId} {d : TypeDesc} (hu : P.underlying t = some d) {c : Value} {ms : List MapEntry} {r : Option (Nat × Value)} (h : Instr.findNow d c ms 0 = some r) : (Instr.findKey t c ms).run P w = .ok r w := by
  simp [Instr.findKey, run_underlying hu, Sem.run_bind, h]
theorem s_lookup {t kt et : TypeId} {om ok : Operand} {m kx : X} {z : AV} {okb st : Bool} (hop : o.op = .lookup t om ok okb) (hu : P.underlying t = some (.map kt et)) (hkt : keyT P kt = some st) (hz : zeT P et = some z) (hm : cmpX om = some m) (hkx : cmpX ok = some kx)
    (hd : ∀ t, o.dst = some t → t < a.tmps.size) (k : SR γ s a w) {e : Eff} (hv : aop o.dst (.lookup m kx z okb st) s.view = some e) : OpOK P γ s o e a w := by
  obtain ⟨d, hk, hkd⟩ := keyT_spec hkt
  obtain ⟨i, c, hi, hzi, hcz, hsize, _, hrc⟩ := zeT_spec (γ := γ) (w := w) hz
  simp only [aop] at hv
  split at hv
  · rename_i id kv h1 h2
    split at hv
    · rename_i es h3 hka
      split at hv
      · rename_i r h4
        obtain ⟨hid, e1⟩ := Rel.map_ (show Rel γ w (.map id) (a.eval om) from ev_rel k hm h1)
        have hrk := val_rel k hkx h2
        obtain ⟨ms, clock, q1, q2, q3, q4, q5⟩ := k.hp id (.map es) h3
        have hfind := findA_rel hkd hka hrk (ms := ms.toList) (by simpa using q2.symm) (fun j k v m hj hm => q3 j k v m hj (by simpa using hm)) h4
        have hget := run_getMap (P := P) q1
        have hrun : ∀ (y : Value) (b : Bool), (Instr.findNow d (a.eval ok) ms.toList 0 = some none ∧ y = c ∧ b = false) ∨ (∃ j, Instr.findNow d (a.eval ok) ms.toList 0 = some (some (j, y)) ∧ b = true) → (execOp a.eval o).run P w = .ok (.value (if okb then .tuple #[y, .bool b] else y)) w := by
          intro y b hyb
          simp only [execOp, hop, e1]
          refine run_v ?_
          rcases hyb with ⟨h5, rfl, rfl⟩ | ⟨j, h5, rfl⟩
          · simp [Instr.lookup, Sem.run_bind, run_underlying hu, hget, run_checkKey' hk hkd, run_findKey' hk h5, run_zero hi hzi]
          · simp [Instr.lookup, Sem.run_bind, run_underlying hu, hget, run_checkKey' hk hkd, run_findKey' hk h5]
        have htup : ∀ (x : AV) (y : Value) (b : Bool), (∀ o : Nat → Owner, RelC γ w o x y) → RelT γ w (labd o.dst) (.tup [x, .bool b]) (.tuple #[y, .bool b]) := by
          intro x y b h
          refine ⟨_, rfl, rfl, fun i u v hu hv => ?_⟩
          match i with
          | 0 => simp at hu hv; subst hu hv; exact h _
          | 1 => simp at hu hv; subst hu hv; exact Rel.cOf (.bool b)
          | i + 2 => simp at hu
        have hzv : z.isV = true := (cmpV_rel (γ := γ) (w := w) hcz fun _ => .dead).2
        rcases hfind with ⟨rfl, h5⟩ | ⟨j, v, mm, rfl, h5, h6, h7, _, _⟩
        · have hr := hrun c false (.inl ⟨h5, rfl, rfl⟩)
          cases okb <;> cases hv
          · exact OpOK.pure hd k (by simpa using hr) (Grew.refl k.fresh) (RelC.t hzv (hrc _)) (okd_t hzv)
          · exact OpOK.pure hd k (by simpa using hr) (Grew.refl k.fresh) (htup _ _ _ hrc) rfl
        · have hr := hrun mm.val true (.inr ⟨_, h7, rfl⟩)
          cases okb <;> cases hv
          · exact pure_val hd k (by simpa using hr) h6
          · exact OpOK.pure hd k (by simpa using hr) (Grew.refl k.fresh) (htup _ _ _ fun o => h6.cOf) rfl
      · cases hv
    · cases hv
  · cases hv
/-- A map written. -/
theorem SR.setMap (k : SR γ s a w) {id : Nat} {es es' : List (AV × AV)} {ms ms' : Array MapEntry} {clock clock' : Nat} (h : s.hp[id]? = some (.map es)) (hb : w.heap[γ.blk id]? = some (.map ms clock)) (hl : ms'.size = es'.length)
    (hr : ∀ (j : Nat) (k v : AV) (m : MapEntry), es'[j]? = some (k, v) → ms'[j]? = some m → Rel γ w k m.key ∧ Rel γ w v m.val) :
    Ext γ w γ { w with heap := w.heap.setIfInBounds (γ.blk id) (.map ms' clock') } ∧ SR γ { s with hp := s.hp.set id (.map es') } a { w with heap := w.heap.setIfInBounds (γ.blk id) (.map ms' clock') } := by
  have hlt := lt_of_heap hb
  obtain ⟨_, _, q1, _, _, q4, q5⟩ := k.hp id (.map es) h
  have hother : ∀ b, b ≠ γ.blk id → (w.heap.setIfInBounds (γ.blk id) (.map ms' clock'))[b]? = w.heap[b]? := fun b hne => by
    rw [Array.getElem?_setIfInBounds, if_neg (fun e => hne e.symm)]
  have hsame : (w.heap.setIfInBounds (γ.blk id) (.map ms' clock'))[γ.blk id]? = some (.map ms' clock') := by
    rw [Array.getElem?_setIfInBounds, if_pos rfl, if_pos hlt]
  have hcell : ∀ b j, γ.own b j ≠ .obj id → ({ w with heap := w.heap.setIfInBounds (γ.blk id) (.map ms' clock') } : World).cell? ⟨b, j, none⟩ = w.cell? ⟨b, j, none⟩ := fun b j hne => by
    have : b ≠ γ.blk id := fun e => hne (e ▸ q4 j)
    simp only [World.cell?, hother b this]
  have hE : Ext γ w γ { w with heap := w.heap.setIfInBounds (γ.blk id) (.map ms' clock') } := by
    refine ⟨⟨fun b j hc => ⟨hc, hcell b j (by rw [hc]; simp)⟩, fun b ar t fr hq => ⟨ar, ?_, rfl⟩, fun _ _ => rfl, Nat.le_refl _⟩, fun b j hc => ⟨hc, hcell b j (by rw [hc]; simp)⟩, rfl, rfl, by simp⟩
    show (w.heap.setIfInBounds _ _)[b]? = _
    rw [hother b (fun e => by rw [e, hb] at hq; cases hq)]
    exact hq
  have hcells : ∀ {b : Nat} {lb : Nat → Owner} {all : Owner} {cs : List AV}, CellsAt γ w b lb all cs → CellsAt γ { w with heap := w.heap.setIfInBounds (γ.blk id) (.map ms' clock') } b lb all cs := by
    rintro b lb all cs ⟨ar, t, p1, p2, p3, p4, p5, p6⟩
    exact ⟨ar, t, by show (w.heap.setIfInBounds _ _)[b]? = _; rw [hother b (fun e => by rw [e, hb] at p1; cases p1)]; exact p1, p2, fun k c v hc hv => (p3 k c v hc hv).mono hE.toMono (fun _ _ h => h), p4, p5, p6⟩
  refine ⟨hE, { below := ?_, base := by simpa using k.base, ownb := k.ownb, fresh := by simpa using k.fresh, nh := by simpa using k.nh, hp := fun id' ob ho => ?_, tm := fun t v hv => ?_, bx := fun b bs hb' => hcells (k.bx b bs hb'), dep := k.dep, df := ⟨k.df.1, fun i dd f vs' hd hf => ?_⟩ }⟩
  · exact k.below.trans ⟨rfl, rfl, rfl, by simp, fun i hi => hother i (by omega)⟩
  · rw [List.getElem?_set] at ho
    split at ho
    · rename_i e
      subst e
      split at ho
      · cases ho
        exact ⟨ms', clock', hsame, hl, fun j k v m hj hm => ⟨(hr j k v m hj hm).1.mono hE.toMono, (hr j k v m hj hm).2.mono hE.toMono⟩, q4, q5⟩
      · cases ho
    · rename_i hne
      have := k.hp id' ob ho
      cases ob with
      | obj cs => exact hcells this
      | dead => trivial
      | map es2 =>
        obtain ⟨ms2, clock2, p1, p2, p3, p4, p5⟩ := this
        refine ⟨ms2, clock2, ?_, p2, fun i k v m he hm => ⟨(p3 i k v m he hm).1.mono hE.toMono, (p3 i k v m he hm).2.mono hE.toMono⟩, p4, p5⟩
        show (w.heap.setIfInBounds _ _)[_]? = _
        rw [hother _ (fun e => ?_)]
        · exact p1
        · have := p4 0
          rw [e, q4] at this
          cases this
          exact hne rfl
  · exact (k.tm t v hv).mono hE.toMono (fun _ _ _ _ h => h) (fun _ _ _ => rfl)
  · obtain ⟨gf, arr1, caps, arr2, p1, p2, p3, p4, p5, p6, p7⟩ := k.df.2 i dd f vs' hd hf
    exact ⟨gf, arr1, caps, arr2, p1, p2, p3, p4, p5, fun j c v hc hv => (p6 j c v hc hv).mono hE.toMono, fun j c v hc hv => (p7 j c v hc hv).mono hE.toMono⟩
theorem s_mapup {t kt et : TypeId} {om ok ov : Operand} {m kx vx : X} {st : Bool} (hop : o.op = .mapUpdate t om ok ov) (hu : P.underlying t = some (.map kt et)) (hkt : keyT P kt = some st) (hm : cmpX om = some m) (hkx : cmpX ok = some kx) (hvx : cmpX ov = some vx)
    (hd : ∀ t, o.dst = some t → t < a.tmps.size) (k : SR γ s a w) {e : Eff} (hv : aop o.dst (.mapup m kx vx st) s.view = some e) : OpOK P γ s o e a w := by
  obtain ⟨d, hk, hkd⟩ := keyT_spec hkt
  simp only [aop] at hv
  split at hv
  · rename_i id kv vv h1 h2 h2'
    split at hv
    · rename_i es h3 hka
      obtain ⟨hid, e1⟩ := Rel.map_ (show Rel γ w (.map id) (a.eval om) from ev_rel k hm h1)
      have hrk := val_rel k hkx h2
      have hrv := val_rel k hvx h2'
      obtain ⟨ms, clock, q1, q2, q3, q4, q5⟩ := k.hp id (.map es) h3
      have hget := run_getMap (P := P) q1
      split at hv
      · rename_i i v0 h4
        have hfind := findA_rel hkd hka hrk (ms := ms.toList) (by simpa using q2.symm) (fun j k v m hj hm => q3 j k v m hj (by simpa using hm)) h4
        rcases hfind with ⟨h, _⟩ | ⟨j, v, mm, h5, h6, h7, h8, h9, h10⟩
        · cases h
        · simp at h5
          obtain ⟨rfl, rfl⟩ := h5
          have h6' : ms[i]? = some mm := by simpa using h6
          have hrun : (execOp a.eval o).run P w = .ok .skip { w with heap := w.heap.setIfInBounds (γ.blk id) (.map (ms.modify i fun e => { e with key := a.eval ok, val := a.eval ov }) clock) } := by
            simp only [execOp, hop, e1]
            refine run_u ?_
            have h8' : Instr.findNow d (a.eval ok) ms.toList 0 = some (some (i, mm.val)) := by simpa using h8
            simp [Instr.mapUpdate, Sem.run_bind, run_underlying hu, hget, run_checkKey' hk hkd, run_findKey' hk h8', Instr.keyThatStays, h6', h9, MapKept.run_setObj_map _ q1]
          cases hv
          obtain ⟨r1, r2⟩ := k.setMap (es' := es.set i (kv, vv)) (ms' := ms.modify i fun e => { e with key := a.eval ok, val := a.eval ov }) (clock' := clock) h3 q1 (by simp [q2]) (by
            intro j k' v' m' hj hm'
            rw [List.getElem?_set] at hj
            rw [Array.getElem?_modify] at hm'
            split at hj
            · rename_i e
              subst e
              cases hj
              rw [if_pos rfl, h6'] at hm'
              simp at hm'
              subst hm'
              exact ⟨hrk, hrv⟩
            · rename_i e
              rw [if_neg (by exact e)] at hm'
              exact q3 j k' v' m' hj hm')
          refine OpOK.skip hrun r1 ?_
          exact r2.setd o.dst (.tup []) undef hd ⟨#[], rfl, rfl, by simp⟩ rfl
      · rename_i h4
        have hfind := findA_rel hkd hka hrk (ms := ms.toList) (by simpa using q2.symm) (fun j k v m hj hm => q3 j k v m hj (by simpa using hm)) h4
        rcases hfind with ⟨_, h5⟩ | ⟨_, _, _, h, _⟩
        · have hrun : (execOp a.eval o).run P w = .ok .skip { w with heap := w.heap.setIfInBounds (γ.blk id) (.map (ms.push { key := a.eval ok, val := a.eval ov, born := clock }) (clock + 1)) } := by
            simp only [execOp, hop, e1]
            refine run_u ?_
            simp [Instr.mapUpdate, Sem.run_bind, run_underlying hu, hget, run_checkKey' hk hkd, run_findKey' hk h5, MapKept.run_setObj_map _ q1]
          cases hv
          obtain ⟨r1, r2⟩ := k.setMap (es' := es ++ [(kv, vv)]) (ms' := ms.push { key := a.eval ok, val := a.eval ov, born := clock }) (clock' := clock + 1) h3 q1 (by simp [q2]) (by
            intro j k' v' m' hj hm'
            rcases Nat.lt_or_ge j es.length with hlt | hge
            · rw [List.getElem?_append_left hlt] at hj
              rw [Array.getElem?_push, if_neg (by omega)] at hm'
              exact q3 j k' v' m' hj hm'
            · rw [List.getElem?_append_right hge] at hj
              have : j - es.length = 0 := by
                have := (List.getElem?_eq_some_iff.1 hj).1
                simp at this
                omega
              rw [this] at hj
              simp at hj
              rw [Array.getElem?_push, if_pos (by omega)] at hm'
              simp at hm'
              subst hm'
              rw [← hj.1, ← hj.2]
              exact ⟨hrk, hrv⟩)
          refine OpOK.skip hrun r1 ?_
          exact r2.setd o.dst (.tup []) undef hd ⟨#[], rfl, rfl, by simp⟩ rfl
        · cases h
      · cases hv
    · cases hv
  · cases hv
/-- A row on the heap, and a slice of all of it. -/
theorem heapRow {sz n : Nat} {es : List AV} {arr : Array Value} {ty : TypeId} (hc : CellsR γ w (es.flatMap AV.cells) arr) (hs : Sized sz es) (hl : es.length = n) (hm : n ≤ 281474976710656) (hr : (execOp a.eval o).run P w = .ok (.value (.slice (some ⟨w.heap.size, 0, none⟩) n n)) (w.alloc (.cells arr ty (0, 0))))
    (hd : ∀ t, o.dst = some t → t < a.tmps.size) (k : SR γ s a w) : OpOK P γ s o { v := .hsl s.hp.length sz 0 n, hw := some (s.hp ++ [.obj (es.flatMap AV.cells)]) } a w := by
  have hb : (w.alloc (.cells arr ty (0, 0))).heap[w.heap.size]? = some (.cells arr ty (0, 0)) := heap_alloc_new w _
  have g := Grew.new k.fresh (.obj γ.nh) (.cells arr ty (0, 0))
  have m : Mono γ w (γ.newObj w.heap.size) (w.alloc (.cells arr ty (0, 0))) := ⟨g.ext.claim, g.ext.shape, fun id hi => by show (if id = γ.nh then _ else _) = _; rw [if_neg (Nat.ne_of_lt hi)], Nat.le_succ _⟩
  obtain ⟨q1, q2⟩ := k.newObj (.cells arr ty (0, 0)) (.obj (es.flatMap AV.cells)) (by
    unfold HR
    rw [newObj_blk]
    exact ⟨arr, ty, hb, hc.1, fun j x y hx hy => ((hc.2 j x y hx hy).2.mono m).x, fun j x hx => by
      have hj := (List.getElem?_eq_some_iff.1 hx).1
      exact (hc.2 j x _ hx (Array.getElem?_eq_getElem (by rw [hc.1]; exact hj))).1, fun j => newObj_own _ _ _, k.base⟩)
  refine OpOK.value hr q1 ?_
  have := q2.setd o.dst (.hsl s.hp.length sz 0 n) (.slice (some ⟨w.heap.size, 0, none⟩) n n) hd (by
    have : Rel (γ.newObj w.heap.size) (w.alloc (.cells arr ty (0, 0))) (.hsl γ.nh sz 0 n) (.slice (some ⟨(γ.newObj w.heap.size).blk γ.nh, 0 * sz, none⟩) n n) :=
      .hsl _ sz 0 n n arr ty (Nat.lt_succ_self _) (by rw [newObj_blk]; exact hb) (by rw [hc.1, flat_len hs, hl]; simp) (Nat.le_refl _) hm
    rw [newObj_blk, Nat.zero_mul] at this
    rw [← k.nh]
    exact this.t) rfl
  exact this
theorem s_bsliceH {t e : TypeId} {n sz : Nat} {ops : Array (Nat × Operand)} {z : AV} {ps : List (Nat × X)} (hop : o.op = .buildSlice t n ops) (he : elT P t = some e) (hsz : szT P e = some sz) (hz : zeT P e = some z) (hps : partsE ops.toList = some ps)
    (hn : n * sz ≤ 16777216) (h0 : 0 < sz) (hd : ∀ t, o.dst = some t → t < a.tmps.size) (k : SR γ s a w) {f : Eff} (hv : aop o.dst (.bslice sz n z.dg ps true) s.view = some f) : OpOK P γ s o f a w := by
  simp only [aop] at hv
  split at hv
  · rename_i es hf
    cases hv
    obtain ⟨arr, hr, hc, hs, hl⟩ := s_bslice hop he hsz hz hps hn h0 hd k hf
    have : n ≤ n * sz := Nat.le_mul_of_pos_right n h0
    exact heapRow hc hs hl (by omega) hr hd k
  · cases hv
theorem s_mkarrH {t e : TypeId} {on oc : Operand} {i j : Nat} {sz by_ : Nat} {z : AV} (hop : o.op = .makeSlice t on oc) (he : elT P t = some e) (hsz : szT P e = some sz) (hby : byT P e = some by_) (hz : zeT P e = some z) (hxn : cmpX on = some (.t i)) (hxc : cmpX oc = some (.t j)) (hij : i = j)
    (h0 : 0 < sz) (hb0 : 0 < by_) (hd : ∀ t, o.dst = some t → t < a.tmps.size) (k : SR γ s a w) {f : Eff} (hv : aop o.dst (.mkarr sz by_ z.dg (.t i) true) s.view = some f) : OpOK P γ s o f a w := by
  simp only [aop] at hv
  split at hv
  · rename_i n hn
    split at hv
    · rename_i h1 h2
      cases hv
      obtain ⟨arr, hr, hc, hs, hle⟩ := s_mkarr hop he hsz hby hz hxn hxc hij h0 hb0 k hn (of_decide_eq_true h1) (of_decide_eq_true h2)
      exact heapRow hc hs (by simp) (by omega) hr hd k
    · cases hv
  · cases hv
/-- A call put off. -/
theorem s_defer {of : Operand} {oas : Array Operand} {ts : Array TypeId} {f : X} {xs : List X} (hop : o.op = .defer { callee := .value of, args := oas, argTypes := ts }) (hf : cmpX of = some f) (hx : cmpXs oas.toList = some xs)
    (hd : ∀ t, o.dst = some t → t < a.tmps.size) (k : SR γ s a w) {e : Eff} (hv : aop o.dst (.defer f xs) s.view = some e) : OpOK P γ s o e a w := by
  simp only [aop] at hv
  split at hv
  · rename_i fv vs h1 h2
    split at hv
    · rename_i g caps
      cases hv
      have hrf := val_rel k hf h1
      obtain ⟨h3, h4⟩ := valAll_rel k hx h2
      obtain ⟨arr, e1, h5, h6⟩ : ∃ arr : Array Value, a.eval of = .func (.func g) #[] arr ∧ arr.size = caps.length ∧ ∀ (j : Nat) (c : AV) (v : Value), caps[j]? = some c → arr[j]? = some v → Rel γ w c v := by
        generalize a.eval of = q at hrf
        cases hrf with
        | fn _ _ arr h5 h6 => exact ⟨arr, rfl, h5, h6⟩
      have hr : (execOp a.eval o).run P w = .ok (.defer { target := .fn (.func g) arr, args := oas.map a.eval }) w := by
        simp [execOp, hop, resolve, Deferred.ofValue, e1, Sem.run_bind]
      refine ⟨{ a with defers := { target := .fn (.func g) arr, args := oas.map a.eval } :: a.defers }.put o.dst undef, w, γ, fun K Q hK => by unfold Oper.wp; rw [hr]; exact hK, Ext.refl γ w, ?_, size_put _ _ _⟩
      have k' : SR γ { s with df := (.fn g caps, vs) :: s.df } { a with defers := { target := .fn (.func g) arr, args := oas.map a.eval } :: a.defers } w := by
        refine { k.toWR with tm := k.tm, bx := k.bx, dep := k.dep, df := ⟨by simp [k.df.1], fun i d f' vs' hd' hf' => ?_⟩ }
        cases i with
        | zero =>
          simp at hd' hf'
          subst hd'
          obtain ⟨rfl, rfl⟩ := hf'
          refine ⟨g, arr, caps, oas.map a.eval, rfl, rfl, rfl, h5, by simp [h3], h6, fun j c v hc hv => ?_⟩
          simp only [Array.getElem?_map, Option.map_eq_some_iff] at hv
          obtain ⟨q, hq, rfl⟩ := hv
          exact h4 j c q hc (by simpa using hq)
        | succ i => exact k.df.2 i d f' vs' (by simpa using hd') (by simpa using hf')
      exact k'.setd o.dst (.tup []) undef hd ⟨#[], rfl, rfl, by simp⟩ rfl
    · cases hv
  · cases hv
end
end Go.Am

set_option linter.unusedSimpArgs false
set_option linter.unusedVariables false
open Go.RowKit
namespace Go.Am
section
variable {P : Program} {γ γ' : Gh} {s : AS} {a : Act} {w w' : World} {o : Oper}

/-! ### 13. What is taken out of a place with its rights -/
theorem splice_dg {cs : List AV} {off n : Nat} (h : off + n ≤ cs.length) (k : Nat) : (splice cs off (((cs.drop off).take n).map AV.dg1))[k]? = (cs[k]?).map fun c => if off ≤ k ∧ k < off + n then c.dg1 else c := by
  unfold splice
  have l1 : (cs.take off).length = off := by simp; omega
  have l2 : ((cs.drop off).take n).length = n := by simp; omega
  rcases Nat.lt_or_ge k off with q | q
  · rw [List.append_assoc, List.getElem?_append_left (by omega), List.getElem?_take, if_pos q]
    have : ¬ (off ≤ k ∧ k < off + n) := by omega
    simp [this]
  · rw [List.append_assoc, List.getElem?_append_right (by omega), l1]
    rcases Nat.lt_or_ge (k - off) n with q2 | q2
    · rw [List.getElem?_append_left (by simp; omega)]
      simp only [List.getElem?_map, List.getElem?_take, if_pos q2, List.getElem?_drop]
      rw [show off + (k - off) = k by omega]
      have : off ≤ k ∧ k < off + n := by omega
      simp [this]
    · rw [List.getElem?_append_right (by simp; omega), List.getElem?_drop]
      rw [List.length_map, l2, show off + n + (k - off - n) = k by omega]
      have : ¬ (off ≤ k ∧ k < off + n) := by omega
      simp [this]
theorem splice_dg_len {cs : List AV} {off n : Nat} (h : off + n ≤ cs.length) : (splice cs off (((cs.drop off).take n).map AV.dg1)).length = cs.length := by
  simp [splice]
  omega
def pullB (b off n : Nat) : Owner → Owner
  | .sp (.bx b' k) => if b' = b ∧ off ≤ k ∧ k < off + n then .sp (.ret 0 (k - off)) else .sp (.bx b' k)
  | o => o
def pullH (id off n : Nat) : Owner → Owner
  | .sp (.hp b' k) => if b' = id ∧ off ≤ k ∧ k < off + n then .sp (.ret 0 (k - off)) else .sp (.hp b' k)
  | o => o
theorem pullB_turn (b off n : Nat) : Turn (pullB b off n) := ⟨rfl, rfl, rfl, fun _ => rfl, fun _ => rfl⟩
theorem pullH_turn (b off n : Nat) : Turn (pullH b off n) := ⟨rfl, rfl, rfl, fun _ => rfl, fun _ => rfl⟩
theorem pulled {f : Owner → Owner} (hf : Turn f) {b off n : Nat} {lb : Nat → Owner} {all : Owner} {cs : List AV} (hall : f all = all) (hlb : ∀ k, ¬ (off ≤ k ∧ k < off + n) → f (lb k) = lb k) (h : off + n ≤ cs.length) (k : CellsAt γ w b lb all cs) :
    CellsAt (γ.turn f) w b lb all (splice cs off (((cs.drop off).take n).map AV.dg1)) := by
  obtain ⟨arr, ty, h1, h2, h3, h4, h5, h6⟩ := k
  refine ⟨arr, ty, h1, h2.trans (splice_dg_len h).symm, fun k c v hc hv => ?_, fun k c hc => ?_, fun j => (congrArg f (h5 j)).trans hall, h6⟩
  · rw [splice_dg h, Option.map_eq_some_iff] at hc
    obtain ⟨c0, hc0, rfl⟩ := hc
    have := (h3 k c0 v hc0 hv).turn hf
    split
    · exact (RelX.dg this).x
    · rename_i hn
      rwa [hlb k hn] at this
  · rw [splice_dg h, Option.map_eq_some_iff] at hc
    obtain ⟨c0, hc0, rfl⟩ := hc
    split
    · exact dg1_one _ (h4 k c0 hc0)
    · exact h4 k c0 hc0
theorem SR.pullB (k : SR γ s a w) {b off n : Nat} {cs : List AV} (hb : look s.bx b = some cs) (h : off + n ≤ cs.length) :
    SR (γ.turn (pullB b off n)) { s with bx := put s.bx b (splice cs off (((cs.drop off).take n).map AV.dg1)) } a w := by
  have hf := pullB_turn b off n
  refine { WR.turn hf (fun _ _ => rfl) k.toWR with tm := fun t v hv => RelT.turn hf (k.tm t v hv), bx := fun b' cs' hb' => ?_, dep := k.dep, df := ⟨k.df.1, fun i d f vs hd hf' => ?_⟩ }
  · simp only [look_put] at hb'
    split at hb'
    · rename_i e
      subst e
      cases hb'
      exact pulled hf rfl (fun j hj => by simp [Am.pullB, hj]) h (k.bx b' cs hb)
    · rename_i e
      have := CellsAt.turn hf (k.bx b' cs' hb') (hf.box b')
      have e2 : (fun k => Am.pullB b off n (.sp (.bx b' k))) = fun k => .sp (.bx b' k) := by
        funext j
        simp [Am.pullB, e]
      rw [e2] at this
      exact this
  · obtain ⟨gf, arr1, caps, arr2, h1, h2, h3, h4, h5, h6, h7⟩ := k.df.2 i d f vs hd hf'
    exact ⟨gf, arr1, caps, arr2, h1, h2, h3, h4, h5, fun j c v hc hv => (h6 j c v hc hv).mono (hf.mono γ w), fun j c v hc hv => (h7 j c v hc hv).mono (hf.mono γ w)⟩
theorem SR.pullH (k : SR γ s a w) {id off n : Nat} {cs : List AV} (hb : s.hp[id]? = some (.obj cs)) (h : off + n ≤ cs.length) :
    SR (γ.turn (pullH id off n)) { s with hp := s.hp.set id (.obj (splice cs off (((cs.drop off).take n).map AV.dg1))) } a w := by
  have hf := pullH_turn id off n
  refine { below := k.below, base := k.base, ownb := fun b j hb => ?_, fresh := fun b j hb => ?_, nh := by rw [List.length_set]; exact k.nh, hp := fun id' o ho => ?_, tm := fun t v hv => RelT.turn hf (k.tm t v hv), bx := fun b' cs' hb' => CellsAt.turn hf (k.bx b' cs' hb') (hf.box b'), dep := k.dep, df := ⟨k.df.1, fun i d f vs hd hf' => ?_⟩ }
  · show Am.pullH _ _ _ (γ.own b j) = _
    rw [k.ownb b j hb]; rfl
  · show Am.pullH _ _ _ (γ.own b j) = _
    rw [k.fresh b j hb]; rfl
  · rw [List.getElem?_set] at ho
    split at ho
    · rename_i e
      subst e
      split at ho
      · cases ho
        exact pulled hf rfl (fun j hj => by simp [Am.pullH, hj]) h (k.hp id (.obj cs) hb)
      · cases ho
    · rename_i e
      have := k.hp id' o ho
      cases o with
      | obj cs' =>
        have h2 := CellsAt.turn hf this (hf.obj id')
        have e2 : (fun k => Am.pullH id off n (.sp (.hp id' k))) = fun k => .sp (.hp id' k) := by
          funext j
          have : ¬ id' = id := fun q => e q.symm
          simp [Am.pullH, this]
        rw [e2] at h2
        exact h2
      | dead => trivial
      | map es =>
        obtain ⟨ms, clock, h1, h2, h3, h4, h5⟩ := this
        exact ⟨ms, clock, h1, h2, fun i k v m he hm => ⟨(h3 i k v m he hm).1.mono (hf.mono γ w), (h3 i k v m he hm).2.mono (hf.mono γ w)⟩, fun j => (congrArg _ (h4 j)).trans (hf.obj id'), h5⟩
  · obtain ⟨gf, arr1, caps, arr2, h1, h2, h3, h4, h5, h6, h7⟩ := k.df.2 i d f vs hd hf'
    exact ⟨gf, arr1, caps, arr2, h1, h2, h3, h4, h5, fun j c v hc hv => (h6 j c v hc hv).mono (hf.mono γ w), fun j c v hc hv => (h7 j c v hc hv).mono (hf.mono γ w)⟩
theorem s_loadS {t : TypeId} {oa : Operand} {x : X} {n : Nat} {ag : Bool} (hop : o.op = .load t oa) (hx : cmpX oa = some x) (hs : szT P t = some n) (ha : agT P t = some ag) (hn : ag = true ∨ n = 1) (hd : ∀ t, o.dst = some t → t < a.tmps.size) (k : SR γ s a w)
    {e : Eff} (hv : aop o.dst (.load x n ag true) s.view = some e) : OpOK P γ s o e a w := by
  simp only [aop] at hv
  split at hv
  · rename_i p h1
    split at hv
    · rename_i cs h2
      split at hv
      · cases ‹_ = false›
      · rename_i v h3 _
        obtain ⟨b, q, e1, vs, l1, l2, hc⟩ := at_rel k hx h1 h2
        have hl : (loadCells ⟨b, q, none⟩ n).run P w = .ok vs.toArray w := by
          rw [← l1]
          refine run_loadCells_list (P := P) w _ vs fun j v hj => ?_
          rw [add_at]
          have : j < cs.length := by rw [l2, ← l1]; exact (List.getElem?_eq_some_iff.1 hj).1
          exact (hc j _ v (List.getElem?_eq_getElem this) hj).1
        -- the labels turned
        obtain ⟨f, hf, hplace, s', hs', k'⟩ : ∃ f, Turn f ∧ (∀ j, j < n → f (place p j) = .sp (.ret 0 j)) ∧ ∃ s', s.apply o.dst e = { s' with tm := putd s'.tm o.dst v } ∧ s'.dep = s.dep ∧ SR (γ.turn f) s' a w := by
          unfold View.at at h2
          unfold View.write at hv
          split at h2
          · rename_i b' off
            split at h2
            · rename_i bs hb
              simp only [hb] at hv
              obtain ⟨hle, hcs⟩ := window_spec h2
              subst hcs
              split at hv
              · cases hv
                refine ⟨_, pullB_turn b' off n, fun j hj => ?_, _, ?_, ?_, k.pullB hb hle⟩
                · have : off ≤ off + j ∧ off + j < off + n := by omega
                  simp [place, Am.pullB]
                  omega
                · rfl
                · rfl
              · cases hv
            · cases h2
          · rename_i id off
            split at h2
            · rename_i bs hb
              simp only [hb] at hv
              obtain ⟨hle, hcs⟩ := window_spec h2
              subst hcs
              split at hv
              · cases hv
                refine ⟨_, pullH_turn id off n, fun j hj => ?_, _, ?_, ?_, k.pullH hb hle⟩
                · simp [place, Am.pullH]
                  omega
                · rfl
                · rfl
              · cases hv
            · cases h2
          · cases hv
          · cases h2
        obtain ⟨hdep, k'⟩ := k'
        have hval : ∀ (j : Nat) (c : AV) (u : Value), cs[j]? = some c → vs[j]? = some u → RelX (γ.turn f) w (.sp (.ret 0 j)) c u := fun j c u hcj huj => by
          have hj : j < n := by rw [← l2]; exact (List.getElem?_eq_some_iff.1 hcj).1
          have := ((hc j c u hcj huj).2.1).turn hf
          rwa [hplace j hj] at this
        rcases mkv_agg h3 with ⟨rfl, rfl⟩ | ⟨rfl, rfl⟩
        · have hr : RelT (γ.turn f) w retL (.agg cs) (.agg vs.toArray) := by
            refine ⟨_, rfl, by simp [l1, l2], fun j c v hc' hv => hval j c v hc' (by simpa using hv), fun j c hc' => ?_⟩
            have hj : j < vs.length := by rw [l1, ← l2]; exact (List.getElem?_eq_some_iff.1 hc').1
            exact (hc j c _ hc' (List.getElem?_eq_getElem hj)).2.2 (by omega)
          obtain ⟨γ2, q1, q2⟩ := k'.setR o.dst _ _ hd hr rfl
          rw [← hs'] at q2
          refine OpOK.value (c := .agg vs.toArray) ?_ ((hf.ext γ w).trans q1) q2
          simp only [execOp, hop, e1]
          refine run_v ?_
          simp [Instr.loadAt, Instr.sureAddr, loadVar, Sem.run_bind, run_isAgg ha, run_sz hs, hl]
        · have h1' : n = 1 := by
            rcases hn with h | h
            · cases h
            · exact h
          subst h1'
          match vs, l1 with
          | [u], _ =>
            obtain ⟨p1, p2, p3⟩ := hc 0 v u (by simp) (by simp)
            have p3' := p3 (by omega)
            have hx0 := hval 0 v u (by simp) (by simp)
            have hiv : v.isV = true := by
              cases v <;> first | rfl | (cases p3'; done) | (cases (show Rel γ w _ u from p2); done)
            have hr : RelT (γ.turn f) w retL v u := RelC.t hiv (RelX.c p3' hx0)
            obtain ⟨γ2, q1, q2⟩ := k'.setR o.dst _ _ hd hr (okd_t hiv)
            rw [← hs'] at q2
            refine OpOK.value (c := u) ?_ ((hf.ext γ w).trans q1) q2
            simp only [execOp, hop, e1]
            refine run_v ?_
            simp at p1
            simp [Instr.loadAt, Instr.sureAddr, loadVar, Sem.run_bind, run_isAgg ha, run_load, p1]
      · cases hv
    · cases hv
  · cases hv
end
end Go.Am

set_option linter.unusedSimpArgs false
set_option linter.unusedVariables false
open Go.RowKit
namespace Go.Am
section
variable {P : Program} {γ γ' : Gh} {s : AS} {a : Act} {w w' : World} {o : Oper}
/-! ### 13a. Structs compared -/
theorem isAgg_of {t : TypeId} {d : TypeDesc} (hu : P.underlying t = some d) (hd : d = .string ∨ d = .bool ∨ ∃ k, d = .int k) (w : World) : (isAgg t).run P w = .ok false w := by
  refine run_isAgg (P := P) ?_ w
  unfold agT
  rw [hu]
  rcases hd with rfl | rfl | ⟨k, rfl⟩ <;> rfl
theorem eqCell_run {ty : BT} {t : TypeId} {d : TypeDesc} (hu : P.underlying t = some d) (hd : (ty = .num ∧ ∃ k, d = .int k) ∨ (ty = .str ∧ d = .string) ∨ (ty = .bool ∧ d = .bool)) {x y : AV} {c c' : Value} {b : Bool} (h : eqCell ty x y = some b)
    (hx : Rel γ w x c) (hy : Rel γ w y c') (n : Nat) : (Op.equalIn (n + 1) t c c').run P w = .ok b w := by
  rcases hd with ⟨rfl, k, rfl⟩ | ⟨rfl, rfl⟩ | ⟨rfl, rfl⟩
  · cases x <;> cases y <;> simp [eqCell] at h
    rw [hx.int_, hy.int_]
    obtain ⟨rfl, rfl⟩ := h
    simp [Op.equalIn, run_underlying hu, Sem.run_bind]
  · cases x <;> cases y <;> simp [eqCell] at h
    rw [hx.str_, hy.str_]
    subst h
    simp [Op.equalIn, run_underlying hu, Sem.run_bind]
  · cases x <;> cases y <;> simp [eqCell] at h
    rw [hx.bool_, hy.bool_]
    subst h
    simp [Op.equalIn, run_underlying hu, Sem.run_bind]
def eqBody (n : Nat) (xs ys : Array Value) (f : Field) (r : Option Bool × Unit) : Sem (ForInStep (Option Bool × Unit)) :=
  if f.name ≠ "_" then do
    let a ← part f.type xs f.offset
    let b ← part f.type ys f.offset
    let c ← Op.equalIn n f.type a b
    if (!c) = true then pure (ForInStep.done (some false, ())) else pure (ForInStep.yield (none, ()))
  else pure (ForInStep.yield (none, ()))
theorem eqT_step {f : Field} {fs : List Field} {l : List (Nat × BT)} (h : eqT P (f :: fs) = some l) : ¬ f.name = "_" ∧ ∃ d ty l', P.underlying f.type = some d ∧ ((ty = BT.num ∧ ∃ k, d = .int k) ∨ (ty = .str ∧ d = .string) ∨ (ty = .bool ∧ d = .bool)) ∧ eqT P fs = some l' ∧ l = (f.offset, ty) :: l' := by
  simp only [eqT] at h
  split at h <;> cases h
  · exact ⟨of_decide_eq_false (by assumption), _, _, _, by assumption, .inl ⟨rfl, _, rfl⟩, by assumption, rfl⟩
  · exact ⟨of_decide_eq_false (by assumption), _, _, _, by assumption, .inr (.inl ⟨rfl, rfl⟩), by assumption, rfl⟩
  · exact ⟨of_decide_eq_false (by assumption), _, _, _, by assumption, .inr (.inr ⟨rfl, rfl⟩), by assumption, rfl⟩
theorem eqLoop {cs ds : List AV} {xs ys : Array Value} (hx : CellsR γ w cs xs) (hy : CellsR γ w ds ys) (n : Nat) {b : Bool} : ∀ {fs : List Field} {l : List (Nat × BT)}, eqT P fs = some l → eqCells cs ds l = some b →
    (forIn fs (none, ()) (eqBody (n + 1) xs ys)).run P w = .ok ((if b = true then none else some false), ()) w
  | [], l, h, hb => by
    cases h
    cases hb
    rfl
  | f :: fs, l, h, hb => by
    obtain ⟨hn, d, ty, l', hu, hd, hl, rfl⟩ := eqT_step h
    simp only [eqCells] at hb
    split at hb
    · rename_i x y h1 h2
      have i1 : f.offset < xs.size := by rw [hx.1]; exact (List.getElem?_eq_some_iff.1 h1).1
      have i2 : f.offset < ys.size := by rw [hy.1]; exact (List.getElem?_eq_some_iff.1 h2).1
      have r1 := (hx.2 _ x _ h1 (Array.getElem?_eq_getElem i1)).2
      have r2 := (hy.2 _ y _ h2 (Array.getElem?_eq_getElem i2)).2
      have hagg : d = .string ∨ d = .bool ∨ ∃ k, d = .int k := by
        rcases hd with ⟨_, k, h⟩ | ⟨_, h⟩ | ⟨_, h⟩
        · exact .inr (.inr ⟨k, h⟩)
        · exact .inl h
        · exact .inr (.inl h)
      have p1 : (part f.type xs f.offset).run P w = .ok xs[f.offset] w := by
        simp [part, Sem.run_bind, isAgg_of hu hagg w, Array.getElem?_eq_getElem i1]
      have p2 : (part f.type ys f.offset).run P w = .ok ys[f.offset] w := by
        simp [part, Sem.run_bind, isAgg_of hu hagg w, Array.getElem?_eq_getElem i2]
      have hstep : ∀ b, eqCell ty x y = some b → (eqBody (n + 1) xs ys f (none, ())).run P w = .ok (if b = true then ForInStep.yield (none, ()) else ForInStep.done (some false, ())) w := by
        intro b hb
        have := eqCell_run hu hd hb r1 r2 n
        unfold eqBody
        rw [if_pos hn]
        simp only [Sem.run_bind, p1, p2, Result.andThen_ok, this]
        cases b <;> rfl
      rw [List.forIn_cons]
      split at hb
      · rename_i he
        simp only [Sem.run_bind, hstep true he, Result.andThen_ok, if_true]
        exact eqLoop hx hy n hl hb
      · rename_i he
        cases hb
        simp only [Sem.run_bind, hstep false he, Result.andThen_ok]
        rfl
      · cases hb
    · cases hb
theorem s_eqst {ox oy : Operand} {x y : X} {op : BinOp} {t t' : TypeId} {fs : Array Field} {l : List (Nat × BT)} {neg : Bool} (hop : o.op = .binOp op t ox oy t') (hx : cmpX ox = some x) (hy : cmpX oy = some y) (hu : P.underlying t = some (.struct fs)) (hl : eqT P fs.toList = some l)
    (hs : P.stoodInHeld t = false) (hg : P.eqGuardType P.depth t = false) (hneg : (neg = false ∧ op = .eql) ∨ (neg = true ∧ op = .neq)) (hd : ∀ t, o.dst = some t → t < a.tmps.size) (k : SR γ s a w) {v : AV} (hv : pop o.dst (.eqst neg l x y) s.view = some v) : OpOK P γ s o { v := v } a w := by
  simp only [pop] at hv
  split at hv
  · rename_i cs ds h1 h2
    split at hv
    · rename_i b hb
      cases hv
      obtain ⟨xs, e1, r1⟩ := Rel.aggR (cp_val k hx h1 rfl)
      obtain ⟨ys, e2, r2⟩ := Rel.aggR (cp_val k hy h2 rfl)
      refine pure_val (c := .bool (if op = .eql then b else !b)) hd k ?_ ?_
      · simp only [execOp, hop, e1, e2]
        refine run_v (eq_run ?_ ?_ (by rcases hneg with ⟨_, h⟩ | ⟨_, h⟩ <;> simp [h]) rfl rfl)
        · have hgen : ∀ n, (Op.equalIn (n + 1 + 1) t (.agg xs) (.agg ys)).run P w = .ok b w := by
            intro n
            have hloop := eqLoop (P := P) r1 r2 n hl hb
            rw [Array.forIn_toList] at hloop
            unfold eqBody at hloop
            rw [Op.equalIn]
            simp only [run_underlying hu, Sem.run_bind, Result.andThen_ok]
            simp only [program, Sem.run, hs, Result.andThen_ok, Bool.false_eq_true, if_false, Sem.run_bind]
            rw [hloop]
            cases b <;> rfl
          exact hgen 9998
        · unfold eqGuard
          simp [program, Sem.run, Sem.run_bind, hg]
      · rcases hneg with ⟨rfl, rfl⟩ | ⟨rfl, rfl⟩
        · exact .bool _
        · exact .bool _
    · cases hv
  · cases hv
end
end Go.Am

set_option linter.unusedSimpArgs false
set_option linter.unusedVariables false
open Go.RowKit
namespace Go.Am
section
variable {P : Program} {γ γ' : Gh} {s : AS} {a : Act} {w w' : World} {o : Oper}

/-! ### 14. Any operation -/
theorem popped {d : Option Nat} {ao : AOp} {s : View} {e : Eff} (hv : (match pop d ao s with | some v => some ({ v := v } : Eff) | none => none) = some e) : ∃ v, pop d ao s = some v ∧ e = { v := v } := by
  split at hv
  · rename_i v h
    cases hv
    exact ⟨v, h, rfl⟩
  · cases hv
theorem aop_sound {ann : Ann} {ao : AOp} (hc : cmpOp P ann o = some ao) (hd : ∀ t, o.dst = some t → t < a.tmps.size) (k : SR γ s a w) {e : Eff} (hv : aop o.dst ao s.view = some e) : OpOK P γ s o e a w := by
  unfold cmpOp at hc
  split at hc
  · rename_i x hop
    simp only [Option.map_eq_some_iff] at hc
    obtain ⟨x', hx, rfl⟩ := hc
    generalize (!isTmp x || annOf ann o.dst == 1) = b at hv
    cases b
    · obtain ⟨v, h, rfl⟩ := popped hv
      exact s_move (.inl hop) hx hd k h
    · exact s_mvs (.inl hop) hx hd k hv
  · rename_i x hop
    simp only [Option.map_eq_some_iff] at hc
    obtain ⟨x', hx, rfl⟩ := hc
    generalize (!isTmp x || annOf ann o.dst != 3) = b at hv
    cases b
    · obtain ⟨v, h, rfl⟩ := popped hv
      exact s_move (.inr hop) hx hd k h
    · exact s_mvs (.inr hop) hx hd k hv
  · rename_i c x y hop
    split at hc
    · rename_i h1 h2 h3
      cases hc
      obtain ⟨v, h, rfl⟩ := popped hv
      exact s_pick hop h1 h2 h3 hd k h
    · cases hc
  · rename_i t hop
    split at hc
    · rename_i z hz
      cases hc
      exact s_alloc hop hz hd k hv
    · cases hc
  · rename_i t x hop
    simp only [Option.map_eq_some_iff] at hc
    obtain ⟨x', hx, rfl⟩ := hc
    exact s_box hop hx hd k hv
  · rename_i t ps hop
    split at hc
    · rename_i fs z hu hz
      split at hc
      · rename_i qs h1 h2
        cases hc
        obtain ⟨v, h, rfl⟩ := popped hv
        exact s_build hop hu h2 hz h1 hd k h
      · cases hc
    · cases hc
  · rename_i t n ps hop
    split at hc
    · rename_i e' he
      split at hc
      · rename_i sz z qs h1 h2 h3
        split at hc
        · rename_i h4
          cases hc
          generalize (annOf ann o.dst == 2) = b at hv
          cases b
          · obtain ⟨v, h, rfl⟩ := popped hv
            exact s_bslice' hop he h1 h2 h3 h4.1 h4.2 hd k h
          · exact s_bsliceH hop he h1 h2 h3 h4.1 h4.2 hd k hv
        · cases hc
      · cases hc
    · cases hc
  · rename_i t x hop
    split at hc
    · rename_i a' n ag h1 h2 h3
      split at hc
      · rename_i h4
        cases hc
        generalize (annOf ann o.dst == 1) = b at hv
        cases b
        · exact s_load hop h1 h2 h3 h4 hd k hv
        · exact s_loadS hop h1 h2 h3 h4 hd k hv
      · cases hc
    · cases hc
  · rename_i t x y hop
    split at hc
    · rename_i h1 h2 h3
      cases hc
      exact s_store hop h1 h2 h3 hd k hv
    · cases hc
  · rename_i x hop
    simp only [Option.map_eq_some_iff] at hc
    obtain ⟨x', hx, rfl⟩ := hc
    obtain ⟨v, h, rfl⟩ := popped hv
    exact s_nilchk hop hx hd k h
  · rename_i op t x y ty hop
    split at hc
    · rename_i x' y' fs h1 h2 h3
      split at hc
      · rename_i l h4 h5 h6
        split at hc
        · cases hc
          obtain ⟨v, h, rfl⟩ := popped hv
          exact s_eqst hop h1 h2 h3 h4 h5 h6 (.inl ⟨rfl, rfl⟩) hd k h
        · cases hc
          obtain ⟨v, h, rfl⟩ := popped hv
          exact s_eqst hop h1 h2 h3 h4 h5 h6 (.inr ⟨rfl, rfl⟩) hd k h
        · cases hc
      · cases hc
    · rename_i h1 h2 _
      split at hc
      · rename_i h3
        cases hc
        obtain ⟨v, h, rfl⟩ := popped hv
        exact s_bin hop h1 h2 h3 hd k h
      · cases hc
    · cases hc
  · rename_i op t x hop
    simp only [Option.map_eq_some_iff] at hc
    obtain ⟨x', hx, rfl⟩ := hc
    obtain ⟨v, h, rfl⟩ := popped hv
    exact s_un hop hx hd k h
  · rename_i S D x hop
    split at hc
    · rename_i h1 h2 h3
      cases hc
      obtain ⟨v, h, rfl⟩ := popped hv
      exact s_conv hop h1 h2 h3 hd k h
    · rename_i h1 h2 h3
      split at hc
      · rename_i h4
        cases hc
        obtain ⟨v, h, rfl⟩ := popped hv
        exact s_b2s hop h1 h4 h2 h3 hd k h
      · cases hc
    · cases hc
  · rename_i t x hop
    split at hc
    · cases hc
    · rename_i d x' hni h1 h2
      cases hc
      obtain ⟨v, h, rfl⟩ := popped hv
      exact s_mkif hop h1 (fun m hm => hni m hm) h2 hd k h
    · cases hc
  · rename_i f first caps hop
    split at hc
    · rename_i h0
      simp only [Option.map_eq_some_iff] at hc
      obtain ⟨xs, hx, rfl⟩ := hc
      obtain ⟨v, h, rfl⟩ := popped hv
      exact s_mkfn hop h0 hx hd k h
    · cases hc
  · rename_i t hop
    cases hc
    simp only [aop] at hv
    cases hv
    exact s_mkmap hop hd k
  · rename_i t m kx ok hop
    split at hc
    · rename_i h1 h2 h3
      split at hc
      · rename_i st z h4 h5
        cases hc
        exact s_lookup hop h1 h4 h5 h2 h3 hd k hv
      · cases hc
    · cases hc
  · rename_i t m kx v hop
    split at hc
    · rename_i h1 h2 h3 h4
      split at hc
      · rename_i st h5
        cases hc
        exact s_mapup hop h1 h5 h2 h3 h4 hd k hv
      · cases hc
    · cases hc
  · rename_i t n c hop
    split at hc
    · rename_i e' he
      split at hc
      · rename_i sz by_ z i j h1 h2 h3 h4 h5
        split at hc
        · rename_i h6
          cases hc
          generalize (annOf ann o.dst == 2) = b at hv
          cases b
          · obtain ⟨v, h, rfl⟩ := popped hv
            exact s_mkarr' hop he h1 h2 h3 h4 h5 h6.1 h6.2.1 h6.2.2 hd k h
          · exact s_mkarrH hop he h1 h2 h3 h4 h5 h6.1 h6.2.1 h6.2.2 hd k hv
        · cases hc
      · cases hc
    · cases hc
  · rename_i t x lo hi hop
    split at hc
    · rename_i h1 h2 h3 h4
      cases hc
      obtain ⟨v, h, rfl⟩ := popped hv
      exact s_slcS hop h1 h2 h3 h4 hd k h
    · rename_i h1 h2 h3 h4
      split at hc
      · rename_i sz h5
        cases hc
        obtain ⟨v, h, rfl⟩ := popped hv
        exact s_slcL hop h1 h5 h2 h3 h4 hd k h
      · cases hc
    · cases hc
  · rename_i t x f hop
    split at hc
    · rename_i fd x' h1 h2
      split at hc
      · rename_i n h3
        cases hc
        obtain ⟨v, h, rfl⟩ := popped hv
        exact s_faddr hop h1 h3 h2 hd k h
      · cases hc
    · cases hc
  · rename_i t x f hop
    split at hc
    · rename_i fd x' h1 h2
      split at hc
      · rename_i n ag h3 h4
        split at hc
        · rename_i h5
          cases hc
          obtain ⟨v, h, rfl⟩ := popped hv
          exact s_fld hop h1 h3 h4 h5 h2 hd k h
        · cases hc
      · cases hc
    · cases hc
  · rename_i t x i hop
    split at hc
    · rename_i h1 h2 h3
      split at hc
      · rename_i sz h4
        cases hc
        obtain ⟨v, h, rfl⟩ := popped hv
        exact s_iaddr hop h1 h4 h2 h3 hd k h
      · cases hc
    · rename_i h1 h2 h3
      split at hc
      · rename_i sz h4
        cases hc
        obtain ⟨v, h, rfl⟩ := popped hv
        exact s_iaddrA hop h1 h4 h2 h3 hd k h
      · cases hc
    · cases hc
  · rename_i t x i hop
    split at hc
    · rename_i h1 h2 h3
      cases hc
      obtain ⟨v, h, rfl⟩ := popped hv
      exact s_idxS hop h1 h2 h3 hd k h
    · rename_i h1 h2 h3
      split at hc
      · rename_i sz ag h4 h5
        split at hc
        · rename_i h6
          cases hc
          obtain ⟨v, h, rfl⟩ := popped hv
          exact s_idxA hop h1 h4 h5 h6 h2 h3 hd k h
        · cases hc
      · cases hc
    · cases hc
  · rename_i x xt t ok hop
    split at hc
    · cases hc
    · rename_i d x' z hni h1 h2 h3
      cases hc
      obtain ⟨v, h, rfl⟩ := popped hv
      exact s_tassert hop h1 (fun m hm => hni m hm) h3 h2 hd k h
    · cases hc
  · rename_i x i hop
    simp only [Option.map_eq_some_iff] at hc
    obtain ⟨x', hx, rfl⟩ := hc
    obtain ⟨v, h, rfl⟩ := popped hv
    exact s_extr hop hx hd k h
  · rename_i x hop
    simp only [Option.map_eq_some_iff] at hc
    obtain ⟨x', hx, rfl⟩ := hc
    simp [aop, pop] at hv
  · rename_i f args ts hop
    split at hc
    · rename_i f' xs h1 h2
      cases hc
      exact s_defer hop h1 h2 hd k hv
    · cases hc
  · rename_i b args ts hop
    split at hc
    · rename_i sx x t t' hargs hts
      split at hc
      · rename_i e' s' x' he hs hx
        split at hc
        · rename_i sz by_ z h1 h2 h3
          split at hc
          · rename_i h4
            cases hc
            obtain ⟨h5, h6, rfl⟩ := h4
            have e1 : args = #[sx, x] := Array.toList_inj.1 hargs
            have e2 : ts = #[t, t] := Array.toList_inj.1 hts
            subst e1 e2
            exact s_app hop he h1 h2 h3 h5 h6 hs hx hd k hv
          · cases hc
        · cases hc
      · cases hc
    · rename_i x t hargs hts
      have e1 : args = #[x] := Array.toList_inj.1 hargs
      have e2 : ts = #[t] := Array.toList_inj.1 hts
      subst e1 e2
      split at hc
      · rename_i h1 h2
        cases hc
        obtain ⟨v, h, rfl⟩ := popped hv
        exact s_len hop (.inl ⟨rfl, h1⟩) h2 hd k h
      · rename_i h1 h2
        cases hc
        obtain ⟨v, h, rfl⟩ := popped hv
        exact s_len hop (.inr ⟨rfl, _, h1⟩) h2 hd k h
      · cases hc
    · simp only [Option.map_eq_some_iff] at hc
      obtain ⟨xs, hx, rfl⟩ := hc
      obtain ⟨v, h, rfl⟩ := popped hv
      exact s_mxn (.inl ⟨rfl, rfl, rfl⟩) hop hx hd k h
    · simp only [Option.map_eq_some_iff] at hc
      obtain ⟨xs, hx, rfl⟩ := hc
      obtain ⟨v, h, rfl⟩ := popped hv
      exact s_mxn (.inr ⟨rfl, rfl, rfl⟩) hop hx hd k h
    · cases hc
      simp [aop, pop] at hv
    · cases hc
  · rename_i f args ts hop
    split at hc
    · split at hc
      · simp only [Option.map_eq_some_iff] at hc
        obtain ⟨xs, hx, rfl⟩ := hc
        simp [aop, pop] at hv
      · cases hc
    · cases hc
  · split at hc
    · cases hc
      simp [aop, pop] at hv
    · cases hc
  · cases hc
end
end Go.Am

set_option linter.unusedSimpArgs false
set_option linter.unusedVariables false
open Go.RowKit
namespace Go.Am

/-! ### 15. Calls -/
inductive AR where
  | norm
  | exit (id : Nat)
  | ret
  | panic (v : AV)
inductive AEnd where
  | ret (v : AV)
  | panic (v : AV)
def AR.is (γ : Gh) (w : World) : AR → Exit → Prop
  | .norm, .normal => True
  | .exit id, .exit id' => id = id'
  | .ret, .ret => True
  | .panic v, .panic chain => ∃ c, chain = [{ v := c, recovered := false }] ∧ Rel γ w v c
  | _, _ => False
/-- What belongs to a frame. -/
def Owner.framed : Owner → Bool
  | .sp (.tm ..) => true
  | .sp (.bx ..) => true
  | .sp (.ret ..) => true
  | .box _ => true
  | _ => false
/-- A step after which all that belongs to frames is as it was. -/
structure Kept (γ : Gh) (w : World) (γ' : Gh) (w' : World) : Prop extends Ext γ w γ' w' where
  frame : ∀ b j, (γ.own b j).framed = true → γ'.own b j = γ.own b j ∧ w'.cell? ⟨b, j, none⟩ = w.cell? ⟨b, j, none⟩
  bxb : γ'.bxb = γ.bxb
abbrev CallR := FuncId → List AV → List HObj → AEnd → List HObj → Prop
def AEnd.is (γ : Gh) (w : World) : AEnd → Ending → Prop
  | .ret v, .returned c => RelT γ w retL v c
  | .panic v, .panicked chain => ∃ c, chain = [{ v := c, recovered := false }] ∧ Rel γ w v c
  | _, _ => False
def RelAll (γ : Gh) (w : World) (vs : List AV) (args : Array Value) : Prop :=
  args.size = vs.length ∧ ∀ (i : Nat) (v : AV) (c : Value), vs[i]? = some v → args[i]? = some c → Rel γ w v c
def Called (P : Program) (f : FuncId) : Prop := ∃ fn, P.funcs[f]? = some fn ∧ fn.body.isSome = true ∧ fn.name ≠ "runtime.NumGoroutine"
def CallS (P : Program) : CallR := fun f vs h e h' =>
  Called P f ∧ ∀ γ w args, WR γ w h → RelAll γ w vs args → Calls P f args w fun en w' => ∃ γ', Kept γ w γ' w' ∧ WR γ' w' h' ∧ e.is γ' w' en

section
variable {P : Program} {γ γ' : Gh} {s : AS} {a : Act} {w w' : World} {o : Oper}
theorem CellsAt.kept (K : Kept γ w γ' w') {b d : Nat} {l : Nat → Loc} (hl : ∀ k, (Owner.sp (l k)).framed = true) {cs : List AV} (k : CellsAt γ w b (fun k => .sp (l k)) (.box d) cs) : CellsAt γ' w' b (fun k => .sp (l k)) (.box d) cs := by
  obtain ⟨arr, ty, h1, h2, h3, h4, h5, h6⟩ := k
  obtain ⟨arr', h7, h8⟩ := K.shape b arr ty _ h1
  have hf : ∀ j, (γ.own b j).framed = true := fun j => by rw [h5]; rfl
  have e : arr' = arr := by
    refine Array.ext h8 fun j hj hj' => ?_
    have := (K.frame b j (hf j)).2
    simp only [World.cell?, h7, h1] at this
    simpa [Array.getElem?_eq_getElem hj, Array.getElem?_eq_getElem hj'] using this
  subst e
  refine ⟨arr', ty, h7, h2, fun k c v hc hv => (h3 k c v hc hv).mono K.toMono fun b j hb => ?_, h4, fun j => ((K.frame b j (hf j)).1).trans (h5 j), by rw [K.n0]; exact h6⟩
  rw [← hb]
  exact (K.frame b j (by rw [hb]; exact hl k)).1
theorem SR.kept (k : SR γ s a w) (K : Kept γ w γ' w') {h' : List HObj} (hw : WR γ' w' h') : SR γ' { s with hp := h' } a w' := by
  refine { hw with tm := fun t v hv => ?_, bx := fun b cs hb => ?_, dep := k.dep, df := ⟨k.df.1, fun i d f vs hd hf => ?_⟩ }
  · refine (k.tm t v hv).mono K.toMono (fun i j b o hb => ?_) (fun b off _ => by rw [K.bxb])
    rw [← hb]
    exact (K.frame b o (by rw [hb]; rfl)).1
  · rw [K.bxb]
    exact CellsAt.kept K (fun _ => rfl) (k.bx b cs hb)
  · obtain ⟨gf, arr1, caps, arr2, h1, h2, h3, h4, h5, h6, h7⟩ := k.df.2 i d f vs hd hf
    exact ⟨gf, arr1, caps, arr2, h1, h2, h3, h4, h5, fun j c v hc hv => (h6 j c v hc hv).mono K.toMono, fun j c v hc hv => (h7 j c v hc hv).mono K.toMono⟩

/-! ### 16. Operations in a row -/
def awpOps (C : CallR) : List AOper → AS → (AR → AS → Prop) → Prop
  | [], s, Q => Q .norm s
  | o :: l, s, Q => match guarded s.view o.g with
    | none => False
    | some false => awpOps C l (s.apply o.d { v := .tup [] }) Q
    | some true => match o.op with
      | .call f args => match valAll s.view args with
        | some vs => ∃ e h', C f vs s.hp e h' ∧ (match e with
          | .ret v => okd s.dep o.d v = true ∧ awpOps C l { s with hp := h', tm := putd s.tm o.d v } Q
          | .panic v => Q (.panic v) { s with hp := h' })
        | none => False
      | .callv x args => match s.view.val x, valAll s.view args with
        | some (.fn f caps), some vs => ∃ e h', C f (vs ++ caps) s.hp e h' ∧ (match e with
          | .ret v => okd s.dep o.d v = true ∧ awpOps C l { s with hp := h', tm := putd s.tm o.d v } Q
          | .panic v => Q (.panic v) { s with hp := h' })
        | _, _ => False
      | .panic x => match s.view.val x with
        | some (.iface t v) => Q (.panic (.iface t v)) s
        | _ => False
      | op => match aop o.d op s.view with
        | some e => awpOps C l (s.apply o.d e) Q
        | none => False
def Post (γ0 : Gh) (w0 : World) (nt : Nat) (Q : AR → AS → Prop) : Exit → Act → World → Prop := fun e a' w' =>
  ∃ r s' γ', Q r s' ∧ r.is γ' w' e ∧ Ext γ0 w0 γ' w' ∧ SR γ' s' a' w' ∧ a'.tmps.size = nt
theorem cmpG_spec {ops : Array Oper} {g : Option (Nat × Bool)} (hg : cmpG ops o.guard = some g) (k : SR γ s a w) {b : Bool} (h : guarded s.view g = some b) : Region.wanted o (yielded ops a.tmps) = b := by
  unfold Region.wanted
  cases hq : o.guard with
  | none =>
    rw [hq] at hg
    cases hg
    simp [guarded] at h
    simp [← h]
  | some p =>
    obtain ⟨j, want⟩ := p
    rw [hq] at hg
    simp only [cmpG] at hg
    split at hg
    · rename_i t ht
      cases hg
      simp only [guarded] at h
      show (yielded ops a.tmps j == some want) = b
      unfold yielded
      rw [ht]
      simp only [Option.bind_some]
      split at h
      · rename_i c hc
        cases h
        have h2 : a.tmps.getD t undef = .bool c := (show Rel γ w (.bool c) _ from k.tm t _ hc).bool_
        have h3 : a.tmps[t]? = some (.bool c) := by
          rw [Array.getD_eq_getD_getElem?] at h2
          cases h4 : a.tmps[t]? with
          | none => rw [h4] at h2; cases h2
          | some v => rw [h4] at h2; exact congrArg some h2
        rw [h3]
        rfl
      · rename_i hc
        cases h
        obtain ⟨arr, h2, h5, _⟩ := k.tm t _ hc
        rw [Array.getD_eq_getD_getElem?] at h2
        cases h4 : a.tmps[t]? with
        | none => rfl
        | some v =>
          rw [h4] at h2
          simp at h2
          subst h2
          rfl
      · cases h
    · cases hg
theorem SR.undef (k : SR γ s a w) (d : Option Nat) (hd : ∀ t, d = some t → t < a.tmps.size) : SR γ (s.apply d { v := .tup [] }) (a.put d undef) w :=
  k.setd d (.tup []) Go.undef hd ⟨#[], rfl, rfl, by simp⟩ rfl
theorem cmpO_spec {ann : Ann} {nt : Nat} {ops : Array Oper} {ao : AOper} (h : cmpO P ann nt ops o = some ao) : cmpOp P ann o = some ao.op ∧ cmpG ops o.guard = some ao.g ∧ o.dst = ao.d ∧ ∀ t, o.dst = some t → t < nt := by
  unfold cmpO at h
  split at h
  · rename_i x g h1 h2
    split at h
    · rename_i d hd
      split at h
      · cases h
        exact ⟨h1, h2, hd, fun t ht => by rw [hd] at ht; cases ht; assumption⟩
      · cases h
    · rename_i hd
      cases h
      exact ⟨h1, h2, hd, fun t ht => by rw [hd] at ht; cases ht⟩
  · cases h
theorem run_resolve {x : Operand} {args : Array Operand} {ts : Array TypeId} {ty : TypeId} {g : FuncId} {arr : Array Value} (h : a.eval x = .func (.func g) #[] arr) :
    (resolve a.eval { callee := .value x, args := args, argTypes := ts } ty).run P w = .ok { target := .fn (.func g) arr, args := args.map a.eval } w := by
  simp [resolve, Deferred.ofValue, h]
theorem run_callFunc {f : FuncId} (hf : Called P f) (args : Array Value) : (callFunc f args).run P w = .ok (.enter f args) w := by
  obtain ⟨fn, h1, h2, h3⟩ := hf
  have h4 : ¬ fn.body = none := by cases hb : fn.body <;> simp_all
  simp [callFunc, Sem.run_bind, program, Sem.run, h1, h3, h4]
/-- What comes of a call. -/
theorem call_wp (k : SR γ s a w) {f : FuncId} {vs : List AV} {args : Array Value} {e : AEnd} {h' : List HObj} (hC : CallS P f vs s.hp e h') (hr : RelAll γ w vs args) (hd : ∀ t, o.dst = some t → t < a.tmps.size)
    {K : Act → World → Prop} {Q : Exit → Act → World → Prop}
    (hK : ∀ v, e = .ret v → okd s.dep o.dst v = true ∧ ∀ γ' a' w', Ext γ w γ' w' → SR γ' { s with hp := h', tm := putd s.tm o.dst v } a' w' → a'.tmps.size = a.tmps.size → K a' w')
    (hQ : ∀ v, e = .panic v → ∀ γ' w' c, Ext γ w γ' w' → SR γ' { s with hp := h' } a w' → Rel γ' w' v c → Q (.panic [{ v := c, recovered := false }]) a w') :
    Oper.upon P o a K Q (.ok (.enter f args) w) := by
  rw [Oper.upon_enter]
  refine (hC.2 γ w args k.toWR hr).mono fun en w' hE => ?_
  obtain ⟨γ', h1, h2, h3⟩ := hE
  have k' := k.kept h1 h2
  cases e with
  | ret v =>
    cases en with
    | returned c =>
      obtain ⟨h4, h5⟩ := hK v rfl
      obtain ⟨γ2, h6, h7⟩ := k'.setR o.dst v c hd h3 h4
      exact h5 γ2 _ w' (h1.toExt.trans h6) h7 (size_put _ _ _)
    | panicked _ => exact h3.elim
    | outgrown => exact h3.elim
  | panic v =>
    cases en with
    | returned c => exact h3.elim
    | panicked chain =>
      obtain ⟨c, h4, h5⟩ := h3
      subst h4
      exact hQ v rfl γ' w' c h1.toExt k' h5
    | outgrown => exact h3.elim
theorem Post.mono {γ0 γ1 : Gh} {w0 w1 : World} {nt : Nat} {Q : AR → AS → Prop} (h : Ext γ0 w0 γ1 w1) {e : Exit} {a : Act} {w : World} (p : Post γ1 w1 nt Q e a w) : Post γ0 w0 nt Q e a w := by
  obtain ⟨r, s', γ', h1, h2, h3, h4, h5⟩ := p
  exact ⟨r, s', γ', h1, h2, h.trans h3, h4, h5⟩
/-- Operations and what stands for them, by numbers. -/
def Lines (P : Program) (ann : Ann) (nt : Nat) (ops : Array Oper) : List Nat → List AOper → Prop
  | [], [] => True
  | i :: is, ao :: aos => (∃ o, ops[i]? = some o ∧ cmpO P ann nt ops o = some ao) ∧ Lines P ann nt ops is aos
  | _, _ => False
theorem op_sound {C : CallR} (hC : ∀ f vs h e h', C f vs h e h' → CallS P f vs h e h') {ann : Ann} {nt : Nat} {ops : Array Oper} {ao : AOper} {l : List AOper} {Q : AR → AS → Prop} {γ0 : Gh} {w0 : World} (hc : cmpO P ann nt ops o = some ao)
    (hE : Ext γ0 w0 γ w) (k : SR γ s a w) (hn : a.tmps.size = nt) (h : awpOps C (ao :: l) s Q) {K : Act → World → Prop}
    (hK : ∀ γ' s' a' w', Ext γ0 w0 γ' w' → SR γ' s' a' w' → a'.tmps.size = nt → awpOps C l s' Q → K a' w') :
    if Region.wanted o (yielded ops a.tmps) then o.wp P a w K (Post γ0 w0 nt Q) else K (a.put o.dst undef) w := by
  obtain ⟨h1, h2, h3, h4⟩ := cmpO_spec hc
  have hd : ∀ t, o.dst = some t → t < a.tmps.size := fun t ht => by rw [hn]; exact h4 t ht
  simp only [awpOps] at h
  split at h
  · exact h.elim
  · rename_i hg
    rw [cmpG_spec h2 k hg, if_neg (by simp)]
    exact hK γ _ _ w hE (k.undef ao.d (h3 ▸ hd) |> fun q => by rw [h3]; exact q) (by rw [size_put]; exact hn) h
  · rename_i hg
    rw [cmpG_spec h2 k hg, if_pos rfl]
    rw [← h3] at h
    split at h
    · rename_i f args hop
      rw [hop] at h1
      split at h
      · rename_i vs hvs
        obtain ⟨e, h', hcall, he⟩ := h
        have hS := hC _ _ _ _ _ hcall
        -- what the operation is
        obtain ⟨oargs, ts, ho, hx⟩ : ∃ oargs ts, o.op = .call { callee := .value (.func f), args := oargs, argTypes := ts } ∧ cmpXs oargs.toList = some args := by
          unfold cmpOp at h1
          repeat' split at h1
          all_goals first | (cases h1; done) | (simp only [Option.map_eq_some_iff] at h1; obtain ⟨q, hq, h1⟩ := h1; cases h1; exact ⟨_, _, by assumption, hq⟩) | (simp only [Option.map_eq_some_iff] at h1; obtain ⟨q, hq, h1⟩ := h1; cases h1; done)
        obtain ⟨h5, h6⟩ := valAll_rel k hx hvs
        have hrun : (execOp a.eval o).run P w = .ok (.enter f (oargs.map a.eval)) w := by
          simp only [execOp, ho, Sem.run_bind, run_resolve (a := a) (x := .func f) (g := f) (arr := #[]) rfl, Result.andThen_ok, invoke, Array.append_empty]
          exact run_callFunc hS.1 _
        unfold Oper.wp
        rw [hrun]
        refine call_wp k hS ⟨by simp [h5], fun i v c hv hc => ?_⟩ hd (fun v hv => ?_) (fun v hv γ' w' c h7 h8 h9 => ?_)
        · simp only [Array.getElem?_map, Option.map_eq_some_iff] at hc
          obtain ⟨q, hq, rfl⟩ := hc
          exact h6 i v q hv (by simpa using hq)
        · subst hv
          exact ⟨he.1, fun γ' a' w' h7 h8 h9 => hK γ' _ a' w' (hE.trans h7) h8 (h9.trans hn) he.2⟩
        · subst hv
          exact ⟨.panic v, _, γ', he, ⟨c, rfl, h9⟩, hE.trans h7, h8, hn⟩
      · exact h.elim
    · rename_i x args hop
      rw [hop] at h1
      split at h
      · rename_i f caps vs hxv hvs
        obtain ⟨e, h', hcall, he⟩ := h
        have hS := hC _ _ _ _ _ hcall
        obtain ⟨ox, oargs, ts, ho, hxx, hx⟩ : ∃ ox oargs ts, o.op = .call { callee := .value ox, args := oargs, argTypes := ts } ∧ cmpX ox = some x ∧ cmpXs oargs.toList = some args := by
          unfold cmpOp at h1
          repeat' split at h1
          all_goals first | (cases h1; done) | (cases h1; exact ⟨_, _, _, by assumption, by assumption, by assumption⟩) | (simp only [Option.map_eq_some_iff] at h1; obtain ⟨q, hq, h1⟩ := h1; cases h1; done)
        obtain ⟨h5, h6⟩ := valAll_rel k hx hvs
        replace h5 : vs.length = oargs.size := h5.trans Array.length_toList
        have hrf := val_rel k hxx hxv
        obtain ⟨arr, e1, h7, h8⟩ : ∃ arr : Array Value, a.eval ox = .func (.func f) #[] arr ∧ arr.size = caps.length ∧ ∀ (j : Nat) (c : AV) (v : Value), caps[j]? = some c → arr[j]? = some v → Rel γ w c v := by
          generalize a.eval ox = q at hrf
          cases hrf with
          | fn _ _ arr h5 h6 => exact ⟨arr, rfl, h5, h6⟩
        have hrun : (execOp a.eval o).run P w = .ok (.enter f (oargs.map a.eval ++ arr)) w := by
          simp only [execOp, ho, Sem.run_bind, run_resolve e1, Result.andThen_ok, invoke]
          exact run_callFunc hS.1 _
        unfold Oper.wp
        rw [hrun]
        refine call_wp k hS ⟨by simp [h5, h7], fun i v c hv hc => ?_⟩ hd (fun v hv => ?_) (fun v hv γ' w' c h7 h8 h9 => ?_)
        · rcases Nat.lt_or_ge i vs.length with q | q
          · rw [List.getElem?_append_left q] at hv
            rw [Array.getElem?_append_left (by simp; omega)] at hc
            simp only [Array.getElem?_map, Option.map_eq_some_iff] at hc
            obtain ⟨q, hq, rfl⟩ := hc
            exact h6 i v q hv (by simpa using hq)
          · rw [List.getElem?_append_right q] at hv
            rw [Array.getElem?_append_right (by simp; omega)] at hc
            simp only [Array.size_map] at hc
            have e3 : oargs.size = vs.length := h5.symm
            rw [e3] at hc
            exact h8 _ v c hv hc
        · subst hv
          exact ⟨he.1, fun γ' a' w' h7 h8 h9 => hK γ' _ a' w' (hE.trans h7) h8 (h9.trans hn) he.2⟩
        · subst hv
          exact ⟨.panic v, _, γ', he, ⟨c, rfl, h9⟩, hE.trans h7, h8, hn⟩
      · exact h.elim
    · rename_i x hop
      rw [hop] at h1
      split at h
      · rename_i t v hv
        obtain ⟨ox, ho, hx⟩ : ∃ ox, o.op = .panic ox ∧ cmpX ox = some x := by
          unfold cmpOp at h1
          repeat' split at h1
          all_goals first | (cases h1; done) | (simp only [Option.map_eq_some_iff] at h1; obtain ⟨q, hq, h1⟩ := h1; cases h1; exact ⟨_, by assumption, hq⟩) | (simp only [Option.map_eq_some_iff] at h1; obtain ⟨q, hq, h1⟩ := h1; cases h1; done)
        have hr := val_rel k hx hv
        obtain ⟨c, e1⟩ : ∃ c, a.eval ox = .iface t c := by
          generalize a.eval ox = q at hr
          cases hr with
          | iface _ _ c _ => exact ⟨c, rfl⟩
        have hrun : (execOp a.eval o).run P w = .halt (.panic (a.eval ox)) w := by
          simp [execOp, ho, Instr.panic, e1, goPanic, Sem.run_bind, Sem.run]
        unfold Oper.wp
        rw [hrun, Oper.upon_panic]
        exact ⟨.panic (.iface t v), s, γ, h, ⟨_, rfl, hr⟩, hE, k, hn⟩
      · exact h.elim
    · split at h
      · rename_i e he
        obtain ⟨a1, w1, γ1, h5, h6, h7, h8⟩ := aop_sound h1 hd k he
        exact h5 _ _ (hK γ1 _ a1 w1 (hE.trans h6) h7 (h8.trans hn) h)
      · exact h.elim
theorem ops_sound {C : CallR} (hC : ∀ f vs h e h', C f vs h e h' → CallS P f vs h e h') {ann : Ann} {nt : Nat} {ops : Array Oper} {Q : AR → AS → Prop} {γ0 : Gh} {w0 : World} :
    ∀ (is : List Nat) (aos : List AOper), Lines P ann nt ops is aos → ∀ (γ : Gh) (s : AS) (a : Act) (w : World), Ext γ0 w0 γ w → SR γ s a w → a.tmps.size = nt → awpOps C aos s Q → wpOps P ops (Post γ0 w0 nt Q) is a w
  | [], [], _, γ, s, a, w, hE, k, hn, h => ⟨.norm, s, γ, h, trivial, hE, k, hn⟩
  | i :: is, ao :: aos, hL, γ, s, a, w, hE, k, hn, h => by
    obtain ⟨⟨o, ho, hc⟩, hL'⟩ := hL
    have := op_sound hC (K := wpOps P ops (Post γ0 w0 nt Q) is) hc hE k hn h fun γ' s' a' w' h1 h2 h3 h4 => ops_sound hC is aos hL' γ' s' a' w' h1 h2 h3 h4
    simp only [wpOps, ho]
    split
    · rename_i hw
      rw [if_pos hw] at this
      exact .inl this
    · rename_i hw
      rw [if_neg hw] at this
      exact this
  | [], _ :: _, h, _, _, _, _, _, _, _, _ => h.elim
  | _ :: _, [], h, _, _, _, _, _, _, _, _ => h.elim
end
end Go.Am

set_option linter.unusedSimpArgs false
set_option linter.unusedVariables false
open Go.RowKit
namespace Go.Am

/-! ### 17. What operations read and write -/
structure Foot where
  rt : List Nat
  rb : List Nat
  rh : Bool
  wt : List Nat
  wb : List Nat
  wh : Bool
def X.tms : X → List Nat
  | .t n => [n]
  | .c _ => []
def tmsAll : List X → List Nat
  | [] => []
  | x :: xs => x.tms ++ tmsAll xs
def tmsOpt : Option X → List Nat
  | none => []
  | some x => x.tms
def tmsE : List (Nat × X) → List Nat
  | [] => []
  | (_, x) :: r => x.tms ++ tmsE r
def tmsP : List (Nat × Nat × X) → List Nat
  | [] => []
  | (_, _, x) :: r => x.tms ++ tmsP r
def AOp.tms : AOp → List Nat
  | .mv x _ => x.tms
  | .pick c a b => c.tms ++ a.tms ++ b.tms
  | .alloc _ _ => []
  | .box x _ => x.tms
  | .build _ ps => tmsP ps
  | .bslice _ _ _ ps _ => tmsE ps
  | .load a _ _ _ => a.tms
  | .store a x _ => a.tms ++ x.tms
  | .nilchk x => x.tms
  | .bin _ _ x y => x.tms ++ y.tms
  | .eqst _ _ x y => x.tms ++ y.tms
  | .un _ x => x.tms
  | .conv _ x => x.tms
  | .b2s x => x.tms
  | .mkif _ x => x.tms
  | .mkfn _ cs => tmsAll cs
  | .mkmap => []
  | .mkarr _ _ _ n _ => n.tms
  | .slcS x lo hi => x.tms ++ tmsOpt lo ++ tmsOpt hi
  | .slc x lo hi _ => x.tms ++ tmsOpt lo ++ tmsOpt hi
  | .faddr x _ => x.tms
  | .fld x _ _ _ => x.tms
  | .iaddr x i _ => x.tms ++ i.tms
  | .iaddrA x i _ _ => x.tms ++ i.tms
  | .idxS x i => x.tms ++ i.tms
  | .idxA x i _ _ _ => x.tms ++ i.tms
  | .lookup m k _ _ _ => m.tms ++ k.tms
  | .mapup m k v _ => m.tms ++ k.tms ++ v.tms
  | .tassert x _ _ _ => x.tms
  | .extr x _ => x.tms
  | .app s x _ _ => s.tms ++ x.tms
  | .len _ x => x.tms
  | .mx xs => tmsAll xs
  | .mn xs => tmsAll xs
  | .call _ xs => tmsAll xs
  | .callv f xs => f.tms ++ tmsAll xs
  | .recov => []
  | .panic x => x.tms
  | .defer f xs => f.tms ++ tmsAll xs
  | .bad => []
/-- The address that an operation goes by. -/
def AOp.adr (s : View) : AOp → Option AV
  | .load a _ _ _ => s.ev a
  | .store a _ _ => s.ev a
  | _ => none
def AOp.rb (s : View) (o : AOp) : List Nat := match o.adr s with
  | some (.lptr b _) => [b]
  | _ => []
def AOp.rh (s : View) (o : AOp) : Bool := match o with
  | .load a _ _ _ => match s.ev a with
    | some (.hptr _ _) => true
    | _ => false
  | .store a _ _ => match s.ev a with
    | some (.hptr _ _) => true
    | _ => false
  | .alloc _ h => h
  | .box _ h => h
  | .bslice _ _ _ _ h => h
  | .mkmap => true
  | .mkarr _ _ _ _ h => h
  | .lookup .. => true
  | .mapup .. => true
  | .call .. => true
  | .callv .. => true
  | _ => false
/-- A load from the heap: where. -/
def AOp.ld (s : View) : AOp → Option (Nat × Nat × Nat)
  | .load a n _ false => match s.ev a with
    | some (.hptr id pos) => some (id, pos, n)
    | _ => none
  | _ => none
def gtms : Option (Nat × Bool) → List Nat
  | none => []
  | some (t, _) => [t]
def dtms : Option Nat → List Nat
  | none => []
  | some t => [t]
def btms : Option (Nat × List AV) → List Nat
  | none => []
  | some (b, _) => [b]
def keys : List (Nat × AV) → List Nat
  | [] => []
  | (t, _) :: r => t :: keys r
structure Ent where
  f : Foot
  ld : Option (Nat × Nat × Nat)
  h0 : List HObj
  h1 : List HObj
def ent (o : AOper) (s : AS) (e : Eff) : Ent :=
  { f := { rt := gtms o.g ++ o.op.tms, rb := o.op.rb s.view, rh := o.op.rh s.view, wt := dtms o.d ++ keys e.tw, wb := btms e.bw, wh := e.hw.isSome },
    ld := o.op.ld s.view, h0 := s.hp, h1 := match e.hw with | none => s.hp | some h => h }
def disj : List Nat → List Nat → Bool
  | [], _ => true
  | x :: l, m => match m.elem x with
    | true => false
    | false => disj l m
def Foot.apart (a b : Foot) : Bool :=
  disj a.wt b.wt && disj a.wt b.rt && disj a.rt b.wt && disj a.wb b.wb && disj a.wb b.rb && disj a.rb b.wb
def hpAt (h : List HObj) (id pos n : Nat) : Option (List AV) := match h[id]? with
  | some (.obj cs) => window cs pos n
  | _ => none
/-- What a load tells is the same ahead of a write and behind it. -/
def Ent.steady (x y : Ent) : Prop := match x.ld with
  | some (id, pos, n) => hpAt y.h0 id pos n = hpAt x.h0 id pos n ∧ hpAt y.h1 id pos n = hpAt x.h0 id pos n
  | none => False
def Ent.calm (x y : Ent) : Prop := y.f.wh = false ∨ (x.f.wh = false ∧ (x.f.rh = false ∨ x.steady y))
def Ent.free (x y : Ent) : Prop := x.f.apart y.f = true ∧ x.calm y ∧ y.calm x
/-- The one at place 'j' against those ahead of it. 'anc': those that surely run first. -/
def freeOf (anc : List Nat) (y : Ent) : Nat → List Ent → Prop
  | _, [] => True
  | i, x :: r => (anc.elem i = true ∨ x.free y) ∧ freeOf anc y (i + 1) r

/-! ### 18. One operation, as a relation -/
inductive Stp (C : CallR) (o : AOper) (s : View) : Eff → Prop
  | skip (h : guarded s o.g = some false) : Stp C o s { v := .tup [] }
  | op {e : Eff} (h : guarded s o.g = some true) (he : aop o.d o.op s = some e) : Stp C o s e
  | call {f : FuncId} {args : List X} {vs : List AV} {v : AV} {h' : List HObj} {hw : Option (List HObj)} (h : guarded s o.g = some true) (ho : o.op = .call f args) (hv : valAll s args = some vs) (hC : C f vs s.hp (.ret v) h') (hd : okd s.dep o.d v = true) (hq : hw = some h' ∨ (hw = none ∧ h' = s.hp)) : Stp C o s { v := v, hw := hw }
  | callv {x : X} {args : List X} {f : FuncId} {caps vs : List AV} {v : AV} {h' : List HObj} {hw : Option (List HObj)} (h : guarded s o.g = some true) (ho : o.op = .callv x args) (hx : s.val x = some (.fn f caps)) (hv : valAll s args = some vs) (hC : C f (vs ++ caps) s.hp (.ret v) h') (hd : okd s.dep o.d v = true) (hq : hw = some h' ∨ (hw = none ∧ h' = s.hp)) : Stp C o s { v := v, hw := hw }
inductive Pan (C : CallR) (o : AOper) (s : View) : AV → List HObj → Prop
  | call {f : FuncId} {args : List X} {vs : List AV} {v : AV} {h' : List HObj} (h : guarded s o.g = some true) (ho : o.op = .call f args) (hv : valAll s args = some vs) (hC : C f vs s.hp (.panic v) h') : Pan C o s v h'
  | callv {x : X} {args : List X} {f : FuncId} {caps vs : List AV} {v : AV} {h' : List HObj} (h : guarded s o.g = some true) (ho : o.op = .callv x args) (hx : s.val x = some (.fn f caps)) (hv : valAll s args = some vs) (hC : C f (vs ++ caps) s.hp (.panic v) h') : Pan C o s v h'
  | panic {x : X} {t : TypeId} {v : AV} (h : guarded s o.g = some true) (ho : o.op = .panic x) (hx : s.val x = some (.iface t v)) : Pan C o s (.iface t v) s.hp
/-- Temporaries that nothing is known of any more. -/
def without {α : Type} (ks : List Nat) : List (Nat × α) → List (Nat × α)
  | [] => []
  | (t, v) :: r => match ks.elem t with
    | true => without ks r
    | false => (t, v) :: without ks r
def wtAll : List Ent → List Nat
  | [] => []
  | e :: r => e.f.wt ++ wtAll r
def wbAll : List Ent → List Nat
  | [] => []
  | e :: r => e.f.wb ++ wbAll r
def allAfter (j : Nat) : List (AOper × List Nat) → Bool
  | [] => true
  | (_, anc) :: r => match anc.elem j with
    | true => allAfter j r
    | false => false
/-- A region whose operations run in any order that their grounds allow. -/
def drawGo (C : CallR) : List (AOper × List Nat) → Nat → List Ent → AS → (AR → AS → Prop) → Prop
  | [], _, _, s, Q => Q .norm s
  | (o, anc) :: l, j, tr, s, Q =>
    (∃ e, Stp C o s.view e ∧ e.dw = none ∧ freeOf anc (ent o s e) 0 tr ∧ drawGo C l (j + 1) (tr ++ [ent o s e]) (s.apply o.d e) Q) ∨
    (∃ v h', Pan C o s.view v h' ∧ freeOf anc (ent o s { v := .tup [], hw := some h' }) 0 tr ∧ allAfter j l = true ∧ Q (.panic v) { s with tm := without (wtAll tr) s.tm, bx := without (wbAll tr) s.bx, hp := h' })
end Go.Am

set_option linter.unusedSimpArgs false
set_option linter.unusedVariables false
open Go.RowKit
namespace Go.Am

/-! ### 19. Any order -/
theorem puts_out : ∀ (l tw : List (Nat × AV)) (t : Nat), t ∉ keys tw → look (puts l tw) t = look l t
  | l, [], t, _ => rfl
  | l, (u, v) :: r, t, h => by
    simp only [keys, List.mem_cons, not_or] at h
    show look (puts (put l u v) r) t = _
    rw [puts_out _ r t h.2, look_put, if_neg h.1]
theorem puts_in : ∀ (l m tw : List (Nat × AV)) (t : Nat), t ∈ keys tw → look (puts l tw) t = look (puts m tw) t
  | l, m, [], t, h => by cases h
  | l, m, (u, v) :: r, t, h => by
    show look (puts (put l u v) r) t = look (puts (put m u v) r) t
    by_cases hr : t ∈ keys r
    · exact puts_in _ _ r t hr
    · rw [puts_out _ r t hr, puts_out _ r t hr, look_put, look_put]
      simp only [keys, List.mem_cons] at h
      rcases h with rfl | h
      · simp
      · exact absurd h hr
theorem apply_tm_out (s : AS) (d : Option Nat) (e : Eff) (t : Nat) (h : t ∉ dtms d ++ keys e.tw) : look (s.apply d e).tm t = look s.tm t := by
  simp only [List.mem_append, not_or] at h
  cases d with
  | none => exact puts_out _ _ t h.2
  | some d =>
    simp only [dtms, List.mem_singleton] at h
    simp only [AS.apply, putd, look_put, if_neg h.1]
    exact puts_out _ _ t h.2
theorem apply_tm_in (s s' : AS) (d : Option Nat) (e : Eff) (t : Nat) (h : t ∈ dtms d ++ keys e.tw) : look (s.apply d e).tm t = look (s'.apply d e).tm t := by
  simp only [List.mem_append] at h
  cases d with
  | none =>
    rcases h with h | h
    · cases h
    · exact puts_in _ _ _ t h
  | some d =>
    simp only [dtms, List.mem_singleton] at h
    simp only [AS.apply, putd, look_put]
    by_cases e1 : t = d
    · simp [e1]
    · simp only [if_neg e1]
      exact puts_in _ _ _ t (h.resolve_left e1)
theorem apply_bx_out (s : AS) (d : Option Nat) (e : Eff) (b : Nat) (h : b ∉ btms e.bw) : look (s.apply d e).bx b = look s.bx b := by
  simp only [AS.apply]
  cases hb : e.bw with
  | none => rfl
  | some p =>
    rw [hb] at h
    simp only [btms, List.mem_singleton] at h
    simp only [look_put, if_neg h]
theorem apply_bx_in (s s' : AS) (d : Option Nat) (e : Eff) (b : Nat) (h : b ∈ btms e.bw) : look (s.apply d e).bx b = look (s'.apply d e).bx b := by
  simp only [AS.apply]
  cases hb : e.bw with
  | none => rw [hb] at h; cases h
  | some p =>
    rw [hb] at h
    simp only [btms, List.mem_singleton] at h
    simp only [look_put, h]
    simp
theorem disj_spec : ∀ {l m : List Nat}, disj l m = true → ∀ x, x ∈ l → x ∉ m
  | [], m, _, x, h => by cases h
  | y :: l, m, h, x, hx => by
    simp only [disj] at h
    split at h
    · cases h
    · rename_i h1
      rcases List.mem_cons.1 hx with rfl | hx
      · intro hm
        have := List.elem_eq_true_of_mem hm
        rw [this] at h1
        cases h1
      · exact disj_spec h x hx

/-! What an operation makes of the same things is the same. -/
/-- 'v' and 'u' tell the same of what is read. -/
structure Same (rt rb : List Nat) (u v : View) : Prop where
  dep : v.dep = u.dep
  tm : ∀ t, t ∈ rt → v.tm t = u.tm t
  bx : ∀ b, b ∈ rb → v.bx b = u.bx b
section
variable {rt rb : List Nat} {u v : View}
theorem Same.ev (h : Same rt rb u v) {x : X} (hx : ∀ t, t ∈ x.tms → t ∈ rt) : v.ev x = u.ev x := by
  cases x with
  | t n => exact h.tm n (hx n (by simp [X.tms]))
  | c w => rfl
theorem Same.cp (h : Same rt rb u v) {x : X} (hx : ∀ t, t ∈ x.tms → t ∈ rt) : v.cp x = u.cp x := by
  simp only [View.cp, h.ev hx]
theorem Same.val (h : Same rt rb u v) {x : X} (hx : ∀ t, t ∈ x.tms → t ∈ rt) : v.val x = u.val x := by
  simp only [View.val, h.ev hx]
theorem Same.valAll (h : Same rt rb u v) : ∀ {xs : List X}, (∀ t, t ∈ tmsAll xs → t ∈ rt) → Am.valAll v xs = Am.valAll u xs
  | [], _ => rfl
  | x :: xs, hx => by
    simp only [Am.valAll, h.val (x := x) (fun t ht => hx t (by simp [tmsAll, ht])), Same.valAll h (xs := xs) (fun t ht => hx t (by simp [tmsAll, ht]))]
theorem Same.fillA (h : Same rt rb u v) : ∀ {ps : List (Nat × Nat × X)} (cs : List AV), (∀ t, t ∈ tmsP ps → t ∈ rt) → Am.fillA v cs ps = Am.fillA u cs ps
  | [], _, _ => rfl
  | (_, _, x) :: ps, cs, hx => by
    simp only [Am.fillA, h.val (x := x) (fun t ht => hx t (by simp [tmsP, ht]))]
    split
    · split
      · exact Same.fillA h _ (fun t ht => hx t (by simp [tmsP, ht]))
      · rfl
    · rfl
theorem Same.fillE (h : Same rt rb u v) {sz : Nat} : ∀ {ps : List (Nat × X)} (cs : List AV), (∀ t, t ∈ tmsE ps → t ∈ rt) → Am.fillE v sz cs ps = Am.fillE u sz cs ps
  | [], _, _ => rfl
  | (_, x) :: ps, cs, hx => by
    simp only [Am.fillE, h.val (x := x) (fun t ht => hx t (by simp [tmsE, ht]))]
    split
    · split
      · exact Same.fillE h _ (fun t ht => hx t (by simp [tmsE, ht]))
      · rfl
    · rfl
theorem Same.bnd (h : Same rt rb u v) {x : Option X} (hx : ∀ t, t ∈ tmsOpt x → t ∈ rt) (z : Int) : v.bnd x z = u.bnd x z := by
  cases x with
  | none => rfl
  | some x => simp only [View.bnd, h.ev (x := x) hx]
theorem Same.bnds (h : Same rt rb u v) {x y : Option X} (hx : ∀ t, t ∈ tmsOpt x → t ∈ rt) (hy : ∀ t, t ∈ tmsOpt y → t ∈ rt) (n : Nat) : v.bnds x y n = u.bnds x y n := by
  simp only [View.bnds, h.bnd hx, h.bnd hy]
theorem Same.guarded (h : Same rt rb u v) {g : Option (Nat × Bool)} (hg : ∀ t, t ∈ gtms g → t ∈ rt) : Am.guarded v g = Am.guarded u g := by
  cases g with
  | none => rfl
  | some p => obtain ⟨t, w⟩ := p; simp only [Am.guarded, h.tm t (hg t (by simp [gtms]))]
theorem Same.pop (h : Same rt rb u v) {d : Option Nat} {o : AOp} (hx : ∀ t, t ∈ o.tms → t ∈ rt) : Am.pop d o v = Am.pop d o u := by
  have hl : ∀ {l m : List Nat}, (∀ t, t ∈ l ++ m → t ∈ rt) → ∀ t, t ∈ l → t ∈ rt := fun h t ht => h t (List.mem_append_left _ ht)
  have hr : ∀ {l m : List Nat}, (∀ t, t ∈ l ++ m → t ∈ rt) → ∀ t, t ∈ m → t ∈ rt := fun h t ht => h t (List.mem_append_right _ ht)
  cases o <;> simp only [AOp.tms] at hx <;> try (simp only [Am.pop]; done)
  case mv x st => cases st <;> simp only [Am.pop, h.cp hx, h.dep]
  case pick c a b => simp only [Am.pop, h.ev (hl (hl hx)), h.val (hr (hl hx)), h.val (hr hx)]
  case build z ps => simp only [Am.pop, h.fillA z hx]
  case bslice sz n z ps hp => cases hp <;> simp only [Am.pop, h.fillE _ hx]
  case nilchk x => simp only [Am.pop, h.cp hx, h.dep]
  case bin ty op x y => simp only [Am.pop, h.cp (hl hx), h.ev (hr hx)]
  case eqst neg fs x y => simp only [Am.pop, h.cp (hl hx), h.cp (hr hx)]
  case un op x => simp only [Am.pop, h.ev hx]
  case conv k x => simp only [Am.pop, h.ev hx]
  case b2s x => simp only [Am.pop, h.cp hx]
  case mkif t x => simp only [Am.pop, h.val hx]
  case mkfn f cs => simp only [Am.pop, h.valAll hx]
  case mkarr sz bytes z n hp => cases hp <;> simp only [Am.pop, h.ev hx]
  case slcS x lo hi => simp only [Am.pop, h.cp (hl (hl hx)), h.bnds (hr (hl hx)) (hr hx)]
  case slc x lo hi sz => simp only [Am.pop, h.cp (hl (hl hx)), h.bnds (hr (hl hx)) (hr hx)]
  case faddr x off => simp only [Am.pop, h.ev hx, h.dep]
  case fld x off n ag => simp only [Am.pop, h.cp hx]
  case iaddr x i sz => simp only [Am.pop, h.cp (hl hx), h.ev (hr hx)]
  case iaddrA x i len sz => simp only [Am.pop, h.ev (hl hx), h.ev (hr hx), h.dep]
  case idxS x i => simp only [Am.pop, h.ev (hl hx), h.ev (hr hx)]
  case idxA x i len sz ag => simp only [Am.pop, h.cp (hl hx), h.ev (hr hx)]
  case tassert x t z ok => simp only [Am.pop, h.cp hx]
  case extr x i => simp only [Am.pop, h.cp hx]
  case len st x => simp only [Am.pop, h.cp hx]
  case mx xs => simp only [Am.pop, h.valAll hx]
  case mn xs => simp only [Am.pop, h.valAll hx]
theorem hpAt_at {s : View} {id pos n : Nat} : s.at (.hptr id pos) n = hpAt s.hp id pos n := rfl
/-- The heap is the same, or nothing of it is read, or a load finds the same. -/
theorem Same.aop (h : Same rt rb u v) {d : Option Nat} {o : AOp} (hx : ∀ t, t ∈ o.tms → t ∈ rt) (hb : ∀ b, b ∈ o.rb u → b ∈ rb)
    (hh : v.hp = u.hp ∨ o.rh u = false ∨ ∃ id pos n, o.ld u = some (id, pos, n) ∧ hpAt v.hp id pos n = hpAt u.hp id pos n) {e : Eff} (he : Am.aop d o u = some e) : Am.aop d o v = some e := by
  have hl : ∀ {l m : List Nat}, (∀ t, t ∈ l ++ m → t ∈ rt) → ∀ t, t ∈ l → t ∈ rt := fun h t ht => h t (List.mem_append_left _ ht)
  have hr : ∀ {l m : List Nat}, (∀ t, t ∈ l ++ m → t ∈ rt) → ∀ t, t ∈ m → t ∈ rt := fun h t ht => h t (List.mem_append_right _ ht)
  have hnv : ∀ {heap : Bool} {cs : List AV} {tw : List (Nat × AV)}, (heap = true → v.hp = u.hp) → v.newVar d heap cs tw = u.newVar d heap cs tw := by
    intro heap cs tw hq
    unfold View.newVar
    rw [h.dep]
    cases heap with
    | true => rw [hq rfl]
    | false => cases d <;> rfl
  rw [← he]
  have hpop : Am.pop d o v = Am.pop d o u := h.pop hx
  cases o <;> simp only [Am.aop] <;> (try rw [hpop]) <;> simp only [AOp.tms] at hx
  case mv x st => cases st <;> simp only [hpop, h.ev hx, h.dep]
  case alloc z hp =>
    exact hnv fun e => by
      subst e
      rcases hh with hh | hh | ⟨_, _, _, hh, _⟩
      · exact hh
      · cases hh
      · cases hh
  case box x hp =>
    rw [h.ev hx]
    split
    · split
      · exact hnv fun e => by
          subst e
          rcases hh with hh | hh | ⟨_, _, _, hh, _⟩
          · exact hh
          · cases hh
          · cases hh
      · rfl
    · rfl
  case bslice sz n z ps hp =>
    cases hp with
    | false => simp only [hpop]
    | true =>
      have : v.hp = u.hp := by
        rcases hh with hh | hh | ⟨_, _, _, hh, _⟩
        · exact hh
        · cases hh
        · cases hh
      simp only [h.fillE _ hx, this]
  case load x n ag st =>
    rw [h.ev hx]
    split
    · rename_i p hp
      have hat : v.at p n = u.at p n := by
        cases p <;> try rfl
        case hptr id pos =>
          rcases hh with hh | hh | ⟨_, _, _, hh, hh'⟩
          · simp only [View.at, hh]
          · simp [AOp.rh, hp] at hh
          · cases st
            · simp only [AOp.ld, hp, Option.some.injEq, Prod.mk.injEq] at hh
              obtain ⟨rfl, rfl, rfl⟩ := hh
              exact hh'
            · cases hh
        case lptr b off =>
          have : v.bx b = u.bx b := h.bx b (hb b (by simp [AOp.rb, AOp.adr, hp]))
          simp only [View.at, this]
      rw [hat]
      split
      · split
        · rfl
        · clear he
          unfold View.write
          cases p <;> try rfl
          case hptr id pos =>
            rcases hh with hh | hh | ⟨_, _, _, hh, _⟩
            · simp only [hh]
            · simp [AOp.rh, hp] at hh
            · simp [AOp.ld] at hh
          case lptr b off _ =>
            have : v.bx b = u.bx b := h.bx b (hb b (by simp [AOp.rb, AOp.adr, hp]))
            simp only [this]
        · rfl
      · rfl
    · rfl
  case store x y n =>
    rw [h.ev (hl hx), h.ev (hr hx)]
    split
    · rename_i p w hp hw
      split
      · unfold View.write
        cases p <;> try rfl
        case hptr id pos =>
          rcases hh with hh | hh | ⟨_, _, _, hh, _⟩
          · simp only [hh]
          · simp [AOp.rh, hp] at hh
          · cases hh
        case lptr b off =>
          have : v.bx b = u.bx b := h.bx b (hb b (by simp [AOp.rb, AOp.adr, hp]))
          simp only [this]
      · rfl
    · rfl
  case mkmap =>
    have : v.hp = u.hp := by
      rcases hh with hh | hh | ⟨_, _, _, hh, _⟩
      · exact hh
      · cases hh
      · cases hh
    simp only [this]
  case mkarr sz bytes z n hp =>
    cases hp with
    | false => simp only [hpop]
    | true =>
      have : v.hp = u.hp := by
        rcases hh with hh | hh | ⟨_, _, _, hh, _⟩
        · exact hh
        · cases hh
        · cases hh
      simp only [h.ev hx, this]
  case lookup m k z ok st =>
    have : v.hp = u.hp := by
      rcases hh with hh | hh | ⟨_, _, _, hh, _⟩
      · exact hh
      · cases hh
      · cases hh
    simp only [h.ev (hl hx), h.val (hr hx), this]
  case mapup m k x st =>
    have : v.hp = u.hp := by
      rcases hh with hh | hh | ⟨_, _, _, hh, _⟩
      · exact hh
      · cases hh
      · cases hh
    simp only [h.ev (hl (hl hx)), h.val (hr (hl hx)), h.val (hr hx), this]
  case app s x sz bytes => simp only [h.ev (hl hx), h.val (hr hx)]
  case defer f xs => simp only [h.val (hl hx), h.valAll (hr hx)]
end
end Go.Am

set_option linter.unusedSimpArgs false
set_option linter.unusedVariables false
open Go.RowKit
namespace Go.Am

theorem Stp.same {C : CallR} {o : AOper} {u v : View} {e : Eff} (h : Stp C o u e) {s : AS} (hs : s.view = u) (hS : Same (ent o s e).f.rt (ent o s e).f.rb u v)
    (hh : v.hp = u.hp ∨ o.op.rh u = false ∨ ∃ id pos n, o.op.ld u = some (id, pos, n) ∧ hpAt v.hp id pos n = hpAt u.hp id pos n) : Stp C o v e := by
  subst hs
  have hg : guarded v o.g = guarded s.view o.g := hS.guarded fun t ht => List.mem_append_left _ ht
  have ht : ∀ t, t ∈ o.op.tms → t ∈ (ent o s e).f.rt := fun t ht => List.mem_append_right _ ht
  have hcall : (∃ f xs, o.op = .call f xs) ∨ (∃ f xs, o.op = .callv f xs) → v.hp = s.view.hp := by
    intro hc
    rcases hh with hh | hh | ⟨_, _, _, hh, _⟩
    · exact hh
    · rcases hc with ⟨_, _, hc⟩ | ⟨_, _, hc⟩ <;> (rw [hc] at hh; cases hh)
    · rcases hc with ⟨_, _, hc⟩ | ⟨_, _, hc⟩ <;> (rw [hc] at hh; cases hh)
  cases h with
  | skip h => exact .skip (hg.trans h)
  | op h he => exact .op (hg.trans h) (hS.aop ht (fun b hb => hb) hh he)
  | call h ho hv hC hd hq =>
    refine .call (hg.trans h) ho ((hS.valAll fun t h => ht t (by rw [ho]; exact h)).trans hv) ?_ ?_ ?_ (h' := ?_)
    rotate_left 1
    · rw [hcall (.inl ⟨_, _, ho⟩)]; exact hC
    · rw [hS.dep]; exact hd
    · rw [hcall (.inl ⟨_, _, ho⟩)]; exact hq
  | callv h ho hx hv hC hd hq =>
    refine .callv (hg.trans h) ho ((hS.val fun t h => ht t (by rw [ho]; exact List.mem_append_left _ h)).trans hx) ((hS.valAll fun t h => ht t (by rw [ho]; exact List.mem_append_right _ h)).trans hv) ?_ ?_ ?_ (h' := ?_)
    rotate_left 1
    · rw [hcall (.inr ⟨_, _, ho⟩)]; exact hC
    · rw [hS.dep]; exact hd
    · rw [hcall (.inr ⟨_, _, ho⟩)]; exact hq
theorem Pan.same {C : CallR} {o : AOper} {u v : View} {x : AV} {h' : List HObj} (h : Pan C o u x h') (hS : Same (gtms o.g ++ o.op.tms) [] u v) (hh : v.hp = u.hp) : Pan C o v x h' := by
  have hg : guarded v o.g = guarded u o.g := hS.guarded fun t ht => List.mem_append_left _ ht
  have ht : ∀ t, t ∈ o.op.tms → t ∈ (gtms o.g ++ o.op.tms) := fun t ht => List.mem_append_right _ ht
  cases h with
  | call h ho hv hC =>
    refine .call (hg.trans h) ho ((hS.valAll fun t h => ht t (by rw [ho]; exact h)).trans hv) ?_
    rw [hh]; exact hC
  | callv h ho hx hv hC =>
    refine .callv (hg.trans h) ho ((hS.val fun t h => ht t (by rw [ho]; exact List.mem_append_left _ h)).trans hx) ((hS.valAll fun t h => ht t (by rw [ho]; exact List.mem_append_right _ h)).trans hv) ?_
    rw [hh]; exact hC
  | panic h ho hx =>
    rw [← hh]
    refine .panic (hg.trans h) ho ?_
    exact (hS.val fun t h => ht t (by rw [ho]; exact h)).trans hx

section
variable {P : Program} {γ γ' : Gh} {s : AS} {a : Act} {w w' : World} {o : Oper}
theorem wp_monoQ {K : Act → World → Prop} {Q Q' : Exit → Act → World → Prop} (h : ∀ c a w, Q (.panic c) a w → Q' (.panic c) a w) (hl : LetsOut Q → LetsOut Q') (hh : o.wp P a w K Q) : o.wp P a w K Q' := by
  unfold Oper.wp at *
  generalize (execOp a.eval o).run P w = r at *
  cases r with
  | ok n w' =>
    cases n <;> simp only [Oper.upon] at hh ⊢ <;>
      first
        | exact hh
        | exact Calls.mono hh (fun e w'' he => by cases e <;> first | exact he | exact h _ _ _ he | exact hl he)
        | exact Rows.mono hh (fun _ _ he => he)
  | halt x w' => cases x <;> simp only [Oper.upon] at hh ⊢ <;> first | exact hh | exact h _ _ _ hh
theorem Post.noOut {γ0 : Gh} {w0 : World} {nt : Nat} {Q : AR → AS → Prop} : ¬ LetsOut (Post γ0 w0 nt Q) := by
  rintro ⟨a, w, r, s', γ', _, h, _⟩
  cases r <;> exact h
/-- One operation of any order. -/
theorem stp_sound {C : CallR} (hC : ∀ f vs h e h', C f vs h e h' → CallS P f vs h e h') {ann : Ann} {nt : Nat} {ops : Array Oper} {ao : AOper} {Q : AR → AS → Prop} {γ0 : Gh} {w0 : World} (hc : cmpO P ann nt ops o = some ao)
    (hE : Ext γ0 w0 γ w) (k : SR γ s a w) (hn : a.tmps.size = nt) {e : Eff} (h : Stp C ao s.view e) (hdw : e.dw = none) {K : Act → World → Prop}
    (hK : ∀ γ' a' w', Ext γ0 w0 γ' w' → SR γ' (s.apply ao.d e) a' w' → a'.tmps.size = nt → K a' w') :
    if Region.wanted o (yielded ops a.tmps) then o.wp P a w K (Post γ0 w0 nt Q) else K (a.put o.dst undef) w := by
  have key := op_sound hC (K := K) (l := []) (Q := fun r s' => r = .norm ∧ s' = s.apply ao.d e) hc hE k hn (by
    unfold awpOps
    cases h with
    | skip h => rw [h]; exact ⟨rfl, rfl⟩
    | op h he =>
      simp only [h]
      split
      · rename_i hop; rw [hop] at he; simp [aop, pop] at he
      · rename_i hop; rw [hop] at he; simp [aop, pop] at he
      · rename_i hop; rw [hop] at he; simp [aop, pop] at he
      · simp only [he]; exact ⟨rfl, rfl⟩
    | call h ho hv hC hd hq =>
      rw [h, ho]
      simp only [hv]
      refine ⟨_, _, hC, hd, rfl, ?_⟩
      rcases hq with rfl | ⟨rfl, rfl⟩ <;> rfl
    | callv h ho hx hv hC hd hq =>
      rw [h, ho]
      simp only [hx, hv]
      refine ⟨_, _, hC, hd, rfl, ?_⟩
      rcases hq with rfl | ⟨rfl, rfl⟩ <;> rfl) (fun γ' s' a' w' h1 h2 h3 h4 => hK γ' a' w' h1 (h4.2 ▸ h2) h3)
  split
  · rename_i hw
    rw [if_pos hw] at key
    refine wp_monoQ (fun c a w hp => ?_) (fun hl => absurd hl Post.noOut) key
    obtain ⟨r, s', γ', ⟨rfl, _⟩, h, _⟩ := hp
    exact h.elim
  · rename_i hw
    rw [if_neg hw] at key
    exact key
theorem pan_sound {C : CallR} (hC : ∀ f vs h e h', C f vs h e h' → CallS P f vs h e h') {ann : Ann} {nt : Nat} {ops : Array Oper} {ao : AOper} {Q : AR → AS → Prop} {γ0 : Gh} {w0 : World} (hc : cmpO P ann nt ops o = some ao)
    (hE : Ext γ0 w0 γ w) (k : SR γ s a w) (hn : a.tmps.size = nt) {v : AV} {h' : List HObj} (h : Pan C ao s.view v h') {K : Act → World → Prop}
    (hQ : ∀ e a' w' γ', (AR.panic v).is γ' w' e → Ext γ0 w0 γ' w' → SR γ' { s with hp := h' } a' w' → a'.tmps.size = nt → Post γ0 w0 nt Q e a' w') :
    if Region.wanted o (yielded ops a.tmps) then o.wp P a w K (Post γ0 w0 nt Q) else K (a.put o.dst undef) w := by
  have hg : guarded s.view ao.g = some true := by cases h <;> assumption
  have key := op_sound hC (K := fun _ _ => False) (l := []) (Q := fun r s' => r = .panic v ∧ s' = { s with hp := h' }) hc hE k hn (by
    simp only [awpOps]
    rw [hg]
    cases h with
    | call h ho hv hC =>
      rw [ho]
      simp only [hv]
      exact ⟨_, _, hC, rfl, rfl⟩
    | callv h ho hx hv hC =>
      rw [ho]
      simp only [hx, hv]
      exact ⟨_, _, hC, rfl, rfl⟩
    | panic h ho hx =>
      rw [ho]
      simp only [hx]
      exact ⟨trivial, rfl⟩) (fun γ' s' a' w' h1 h2 h3 h4 => by cases h4.1)
  rw [cmpG_spec (cmpO_spec hc).2.1 k hg, if_pos rfl] at key ⊢
  refine Oper.wp_mono (fun _ _ h => h.elim) (wp_monoQ (fun c a w hp => ?_) (fun hl => absurd hl Post.noOut) key)
  obtain ⟨r, s', γ', ⟨rfl, rfl⟩, h1, h2, h3, h4⟩ := hp
  exact hQ _ a w γ' h1 h2 h3 h4
end

/-! One component of the state, and who wrote it last. -/
section
variable {β : Type} {S : Nat → AS} {m : Nat} {W D : Nat → Prop} {comp : AS → β} {sD : AS}
def CompInv (S : Nat → AS) (m : Nat) (comp : AS → β) (W D : Nat → Prop) (sD : AS) : Prop :=
  ∃ q, q ≤ m ∧ comp sD = comp (S q) ∧ (∀ p, p < m → D p → W p → p < q) ∧ (q = 0 ∨ ∃ r, q = r + 1 ∧ r < m ∧ D r ∧ W r)
theorem comp_still (hf : ∀ p, p < m → ¬ W p → comp (S (p + 1)) = comp (S p)) : ∀ (n q : Nat), q + n ≤ m → (∀ p, q ≤ p → p < q + n → ¬ W p) → comp (S (q + n)) = comp (S q)
  | 0, q, _, _ => rfl
  | n + 1, q, h, hw => by
    have := hf (q + n) (by omega) (hw _ (by omega) (by omega))
    rw [show q + (n + 1) = q + n + 1 by omega, this]
    exact comp_still hf n q (by omega) fun p h1 h2 => hw p h1 (by omega)
theorem CompInv.read (h : CompInv S m comp W D sD) (hf : ∀ p, p < m → ¬ W p → comp (S (p + 1)) = comp (S p)) {i : Nat} (hi : i ≤ m) (hD : ¬ D i) (h1 : ∀ p, p < i → W p → D p) (h2 : ∀ p, i < p → p < m → W p → ¬ D p) : comp sD = comp (S i) := by
  obtain ⟨q, hq, e, h3, h4⟩ := h
  rcases Nat.lt_or_ge i q with hlt | hge
  · rcases h4 with rfl | ⟨r, rfl, hr, hDr, hWr⟩
    · omega
    · rcases Nat.lt_or_ge i r with h5 | h5
      · exact absurd hDr (h2 r h5 hr hWr)
      · have : r = i := by omega
        subst this
        exact absurd hDr hD
  · rw [e]
    have := comp_still hf (i - q) q (by omega) fun p h5 h6 hw => by
      have := h3 p (by omega) (h1 p (by omega) hw) hw
      omega
    rw [show q + (i - q) = i by omega] at this
    exact this.symm
theorem CompInv.wrote (h : CompInv S m comp W D sD) {i : Nat} (hi : i < m) (hW : W i) (h1 : ∀ p, p < m → D p → W p → p < i) {sD' : AS} (e : comp sD' = comp (S (i + 1))) : CompInv S m comp W (fun p => D p ∨ p = i) sD' := by
  refine ⟨i + 1, hi, e, fun p hp hd hw => ?_, .inr ⟨i, rfl, hi, .inr rfl, hW⟩⟩
  rcases hd with hd | rfl
  · have := h1 p hp hd hw; omega
  · omega
theorem CompInv.stays (h : CompInv S m comp W D sD) {i : Nat} (hW : ¬ W i) {sD' : AS} (e : comp sD' = comp sD) : CompInv S m comp W (fun p => D p ∨ p = i) sD' := by
  obtain ⟨q, hq, e1, h3, h4⟩ := h
  refine ⟨q, hq, e.trans e1, fun p hp hd hw => ?_, ?_⟩
  · rcases hd with hd | rfl
    · exact h3 p hp hd hw
    · exact absurd hw hW
  · rcases h4 with h4 | ⟨r, h5, h6, h7, h8⟩
    · exact .inl h4
    · exact .inr ⟨r, h5, h6, .inl h7, h8⟩
theorem CompInv.done (h : CompInv S m comp W D sD) (hf : ∀ p, p < m → ¬ W p → comp (S (p + 1)) = comp (S p)) (hall : ∀ p, p < m → W p → D p) : comp sD = comp (S m) := by
  obtain ⟨q, hq, e, h3, h4⟩ := h
  rw [e]
  have := comp_still hf (m - q) q (by omega) fun p h5 h6 hw => by
    have := h3 p (by omega) (hall p (by omega) hw) hw
    omega
  rw [show q + (m - q) = m by omega] at this
  exact this.symm
theorem CompInv.congr {D' : Nat → Prop} (h : CompInv S m comp W D sD) (hD : ∀ p, p < m → (D p ↔ D' p)) : CompInv S m comp W D' sD := by
  obtain ⟨q, hq, e1, h3, h4⟩ := h
  refine ⟨q, hq, e1, fun p hp hd hw => h3 p hp ((hD p hp).2 hd) hw, ?_⟩
  rcases h4 with h4 | ⟨r, h5, h6, h7, h8⟩
  · exact .inl h4
  · exact .inr ⟨r, h5, h6, (hD r h6).1 h7, h8⟩
/-- A load that finds the same ahead of each write that may run on either side of it. -/
theorem CompInv.steady {δ : Type} {f : β → δ} (h : CompInv S m comp W D sD) (hf : ∀ p, p < m → ¬ W p → comp (S (p + 1)) = comp (S p)) {i : Nat} (hi : i ≤ m) (hD : ¬ D i)
    (h1 : ∀ p, p < i → W p → D p ∨ f (comp (S p)) = f (comp (S i))) (h2 : ∀ p, i < p → p < m → W p → ¬ D p ∨ f (comp (S (p + 1))) = f (comp (S i))) : f (comp sD) = f (comp (S i)) := by
  obtain ⟨q, hq, e, h3, h4⟩ := h
  rw [e]
  rcases Nat.lt_or_ge i q with hlt | hge
  · rcases h4 with rfl | ⟨r, rfl, hr, hDr, hWr⟩
    · omega
    · rcases Nat.lt_or_ge i r with h5 | h5
      · exact (h2 r h5 hr hWr).resolve_left (fun h => h hDr)
      · have : r = i := by omega
        subst this
        exact absurd hDr hD
  · -- the first write behind q
    have key : ∀ n, q + n = i → (∀ p, q ≤ p → p < q + n → ¬ W p) ∨ ∃ p, q ≤ p ∧ p < q + n ∧ W p ∧ ∀ r, q ≤ r → r < p → ¬ W r := by
      intro n _
      clear hge
      by_cases hex : ∃ p, q ≤ p ∧ p < q + n ∧ W p
      · obtain ⟨p, hp⟩ := hex
        right
        have : ∀ k p, p < q + k → q ≤ p → p < q + n → W p → ∃ p, q ≤ p ∧ p < q + n ∧ W p ∧ ∀ r, q ≤ r → r < p → ¬ W r := by
          intro k
          induction k with
          | zero => intro p h1 h2; omega
          | succ k ih =>
            intro p h1 h2 h3 h4
            by_cases hlow : ∃ r, q ≤ r ∧ r < p ∧ W r
            · obtain ⟨r, hr1, hr2, hr3⟩ := hlow
              exact ih r (by omega) hr1 (by omega) hr3
            · exact ⟨p, h2, h3, h4, fun r hr1 hr2 hr3 => hlow ⟨r, hr1, hr2, hr3⟩⟩
        exact this n p hp.2.1 hp.1 hp.2.1 hp.2.2
      · exact .inl fun p h1 h2 h3 => hex ⟨p, h1, h2, h3⟩
    rcases key (i - q) (by omega) with hno | ⟨p, hp1, hp2, hp3, hp4⟩
    · have := comp_still hf (i - q) q (by omega) hno
      rw [show q + (i - q) = i by omega] at this
      rw [this]
    · have := comp_still hf (p - q) q (by omega) fun r h5 h6 => hp4 r h5 (by omega)
      rw [show q + (p - q) = p by omega] at this
      rw [← this]
      refine (h1 p (by omega) hp3).resolve_left fun hd => ?_
      have := h3 p (by omega) hd hp3
      omega
end
end Go.Am

set_option linter.unusedSimpArgs false
set_option linter.unusedVariables false
open Go.RowKit
namespace Go.Am

def direct (ops : Array Oper) (j : Nat) : List Nat := match ops[j]? with
  | some o => (o.after.toList.filter (Region.binds .any)).map (·.on)
  | none => []
/-- 'is': the operations' numbers in the order in which they are looked at; 'ancs': of each the places of some that surely run first. -/
def drawOK (ops : Array Oper) (is : List Nat) (ancs : List (List Nat)) : Bool :=
  decide is.Nodup && ((List.range ops.size).all fun i => is.elem i) &&
  (List.range is.length).all fun j =>
    ((direct ops (is.getD j 0)).all fun e => (is.take j).elem e) &&
    (ancs.getD j []).all fun i => decide (i < j) && ((direct ops (is.getD j 0)).elem (is.getD i 0) || (ancs.getD j []).any fun k => (direct ops (is.getD j 0)).elem (is.getD k 0) && (ancs.getD k []).elem i)
section
variable {l : List (AOper × List Nat)}
abbrev opAt (l : List (AOper × List Nat)) (i : Nat) : AOper := (l.getD i default).1
abbrev ancAt (l : List (AOper × List Nat)) (i : Nat) : List Nat := (l.getD i default).2
def upd {α : Type} (f : Nat → α) (k : Nat) (v : α) : Nat → α := fun i => if i = k then v else f i
/-- The i-th step of a run in the order of the list. -/
structure Good (C : CallR) (l : List (AOper × List Nat)) (S : Nat → AS) (E : Nat → Eff) (i : Nat) : Prop where
  stp : Stp C (opAt l i) (S i).view (E i)
  dw : (E i).dw = none
  next : S (i + 1) = (S i).apply (opAt l i).d (E i)
  free : ∀ j, j < i → (ancAt l i).elem j = true ∨ (ent (opAt l j) (S j) (E j)).free (ent (opAt l i) (S i) (E i))
theorem freeOf_spec {anc : List Nat} {y : Ent} : ∀ {tr : List Ent} {k : Nat}, freeOf anc y k tr → ∀ i x, tr[i]? = some x → anc.elem (k + i) = true ∨ x.free y
  | [], k, h, i, x, hx => by simp at hx
  | z :: tr, k, h, i, x, hx => by
    cases i with
    | zero => simp at hx; subst hx; exact h.1
    | succ i =>
      have := freeOf_spec h.2 i x (by simpa using hx)
      rwa [show k + 1 + i = k + (i + 1) by omega] at this
theorem allAfter_spec {j : Nat} : ∀ {l : List (AOper × List Nat)}, allAfter j l = true → ∀ x ∈ l, x.2.elem j = true
  | [], _, x, hx => by cases hx
  | (o, anc) :: l, h, x, hx => by
    simp only [allAfter] at h
    split at h
    · rename_i h1
      rcases List.mem_cons.1 hx with rfl | hx
      · exact h1
      · exact allAfter_spec h x hx
    · cases h
def Ends (C : CallR) (l : List (AOper × List Nat)) (S : Nat → AS) (E : Nat → Eff) (m : Nat) (tr : List Ent) (Q : AR → AS → Prop) : Prop :=
  (m = l.length ∧ Q .norm (S m)) ∨
  (m < l.length ∧ ∃ v h', Pan C (opAt l m) (S m).view v h' ∧ (∀ j, j < m → (ancAt l m).elem j = true ∨ (ent (opAt l j) (S j) (E j)).free (ent (opAt l m) (S m) { v := .tup [], hw := some h' })) ∧
    (∀ k, m < k → k < l.length → (ancAt l k).elem m = true) ∧ Q (.panic v) { S m with tm := without (wtAll tr) (S m).tm, bx := without (wbAll tr) (S m).bx, hp := h' })
theorem drawGo_spec {C : CallR} {Q : AR → AS → Prop} : ∀ (suf pre : List (AOper × List Nat)) (S : Nat → AS) (E : Nat → Eff) (tr : List Ent),
    tr.length = pre.length → (∀ i, i < pre.length → Good C (pre ++ suf) S E i ∧ tr[i]? = some (ent (opAt (pre ++ suf) i) (S i) (E i))) → drawGo C suf pre.length tr (S pre.length) Q →
    ∃ S' E' m tr', S' 0 = S 0 ∧ m ≤ (pre ++ suf).length ∧ tr'.length = m ∧ (∀ i, i < m → Good C (pre ++ suf) S' E' i ∧ tr'[i]? = some (ent (opAt (pre ++ suf) i) (S' i) (E' i))) ∧ Ends C (pre ++ suf) S' E' m tr' Q
  | [], pre, S, E, tr, hl, hg, h => by
    rw [List.append_nil] at *
    exact ⟨S, E, pre.length, tr, rfl, Nat.le_refl _, hl, hg, .inl ⟨rfl, h⟩⟩
  | (o, anc) :: suf, pre, S, E, tr, hl, hg, h => by
    have hat : (pre ++ (o, anc) :: suf).getD pre.length default = (o, anc) := by simp [List.getD_eq_getElem?_getD]
    simp only [drawGo] at h
    rcases h with ⟨e, h1, h2, h3, h4⟩ | ⟨v, h', h1, h2, h3, h4⟩
    · have hS : ∀ i, i ≤ pre.length → upd S (pre.length + 1) ((S pre.length).apply o.d e) i = S i := fun i hi => by
        simp only [upd]; rw [if_neg (by omega)]
      have hE : ∀ i, i < pre.length → upd E pre.length e i = E i := fun i hi => by
        simp only [upd]; rw [if_neg (by omega)]
      have hSn : upd S (pre.length + 1) ((S pre.length).apply o.d e) (pre.length + 1) = (S pre.length).apply o.d e := by simp [upd]
      have hEn : upd E pre.length e pre.length = e := by simp [upd]
      have := drawGo_spec suf (pre ++ [(o, anc)]) (upd S (pre.length + 1) ((S pre.length).apply o.d e)) (upd E pre.length e) (tr ++ [ent o (S pre.length) e]) (by simp [hl]) (fun i hi => by
        simp only [List.append_assoc, List.singleton_append]
        simp only [List.length_append, List.length_singleton] at hi
        rcases Nat.lt_or_ge i pre.length with hlt | hge
        · obtain ⟨g, ht⟩ := hg i hlt
          have hS0 := hS i (by omega)
          have hS1 := hS (i + 1) (by omega)
          have hE0 := hE i hlt
          refine ⟨⟨by rw [hS0, hE0]; exact g.stp, by rw [hE0]; exact g.dw, by rw [hS0, hS1, hE0]; exact g.next, fun j hj => ?_⟩, ?_⟩
          · rw [hS0, hE0, hS j (by omega), hE j (by omega)]
            exact g.free j hj
          · rw [List.getElem?_append_left (by omega), hS0, hE0]
            exact ht
        · have : i = pre.length := by omega
          subst this
          have hS0 := hS pre.length (by omega)
          refine ⟨⟨by rw [hS0, hEn]; simp only [opAt, hat]; exact h1, by rw [hEn]; exact h2, by rw [hS0, hSn, hEn]; simp only [opAt, hat], fun j hj => ?_⟩, ?_⟩
          · rw [hS0, hEn, hS j (by omega), hE j hj]
            simp only [opAt, ancAt, hat]
            have := freeOf_spec h3 j _ (hg j hj).2
            rwa [Nat.zero_add] at this
          · rw [List.getElem?_append_right (by omega), hl, hS0, hEn]
            simp only [opAt, hat, Nat.sub_self]
            rfl) (by
        simp only [List.length_append, List.length_singleton, hSn]
        exact h4)
      obtain ⟨S', E', m, tr', q1, q2, q3, q4, q5⟩ := this
      simp only [List.append_assoc, List.singleton_append] at q2 q4 q5
      exact ⟨S', E', m, tr', q1.trans (hS 0 (by omega)), q2, q3, q4, q5⟩
    · refine ⟨S, E, pre.length, tr, rfl, by simp, hl, hg, .inr ⟨by simp, v, h', ?_, fun j hj => ?_, fun k hk1 hk2 => ?_, h4⟩⟩
      · simp only [opAt, hat]; exact h1
      · simp only [opAt, ancAt, hat]
        have := freeOf_spec h2 j _ (hg j hj).2
        rwa [Nat.zero_add] at this
      · refine allAfter_spec h3 _ ?_
        simp only [List.length_append, List.length_cons] at hk2
        rw [List.getD_eq_getElem?_getD, List.getElem?_append_right (by omega)]
        have e1 : k - pre.length = (k - pre.length - 1) + 1 := by omega
        rw [e1, List.getElem?_cons_succ]
        have : k - pre.length - 1 < suf.length := by omega
        rw [List.getElem?_eq_getElem this]
        exact List.getElem_mem this
theorem Lines.get {P : Program} {ann : Ann} {nt : Nat} {ops : Array Oper} : ∀ {is : List Nat} {aos : List AOper}, Lines P ann nt ops is aos → is.length = aos.length ∧ ∀ i, i < aos.length → ∃ o, ops[is.getD i 0]? = some o ∧ cmpO P ann nt ops o = some (aos.getD i default)
  | [], [], _ => ⟨rfl, fun i hi => by simp at hi⟩
  | j :: is, ao :: aos, h => by
    obtain ⟨h1, h2⟩ := Lines.get h.2
    refine ⟨by simp [h1], fun i hi => ?_⟩
    cases i with
    | zero => exact h.1
    | succ i => simpa using h2 i (by simpa using hi)
  | [], _ :: _, h => h.elim
  | _ :: _, [], h => h.elim
theorem elem_mem {l : List Nat} {x : Nat} (h : l.elem x = true) : x ∈ l := by simpa using h
end
end Go.Am

set_option linter.unusedSimpArgs false
set_option linter.unusedVariables false
open Go.RowKit
namespace Go.Am
theorem apart_spec {a b : Foot} (h : a.apart b = true) : (∀ t, t ∈ a.wt → t ∉ b.wt) ∧ (∀ t, t ∈ a.wt → t ∉ b.rt) ∧ (∀ t, t ∈ a.rt → t ∉ b.wt) ∧ (∀ t, t ∈ a.wb → t ∉ b.wb) ∧ (∀ t, t ∈ a.wb → t ∉ b.rb) ∧ (∀ t, t ∈ a.rb → t ∉ b.wb) := by
  simp only [Foot.apart, Bool.and_eq_true] at h
  obtain ⟨⟨⟨⟨⟨h1, h2⟩, h3⟩, h4⟩, h5⟩, h6⟩ := h
  exact ⟨disj_spec h1, disj_spec h2, disj_spec h3, disj_spec h4, disj_spec h5, disj_spec h6⟩
section
variable {C : CallR} {l : List (AOper × List Nat)} {S : Nat → AS} {E : Nat → Eff} {m : Nat} {D : Nat → Prop} {sD : AS}
abbrev entAt (l : List (AOper × List Nat)) (S : Nat → AS) (E : Nat → Eff) (p : Nat) : Ent := ent (opAt l p) (S p) (E p)
/-- What is known of the state when the operations of 'D' have run. -/
structure DInv (l : List (AOper × List Nat)) (S : Nat → AS) (E : Nat → Eff) (m : Nat) (D : Nat → Prop) (sD : AS) : Prop where
  dep : sD.dep = (S 0).dep
  df : sD.df = (S 0).df
  tm : ∀ t, CompInv S m (fun s => look s.tm t) (fun p => t ∈ (entAt l S E p).f.wt) D sD
  bx : ∀ b, CompInv S m (fun s => look s.bx b) (fun p => b ∈ (entAt l S E p).f.wb) D sD
  hp : CompInv S m (fun s => s.hp) (fun p => (entAt l S E p).f.wh = true) D sD
variable (hg : ∀ i, i < m → Good C l S E i)
include hg
theorem good_tm (t : Nat) : ∀ p, p < m → ¬ t ∈ (entAt l S E p).f.wt → look (S (p + 1)).tm t = look (S p).tm t := fun p hp h => by
  rw [(hg p hp).next]
  exact apply_tm_out _ _ _ t h
theorem good_bx (b : Nat) : ∀ p, p < m → ¬ b ∈ (entAt l S E p).f.wb → look (S (p + 1)).bx b = look (S p).bx b := fun p hp h => by
  rw [(hg p hp).next]
  exact apply_bx_out _ _ _ b h
theorem good_hp1 (p : Nat) (hp : p < m) : (entAt l S E p).h1 = (S (p + 1)).hp := by
  rw [(hg p hp).next]
  rfl
theorem good_hp : ∀ p, p < m → ¬ (entAt l S E p).f.wh = true → (S (p + 1)).hp = (S p).hp := fun p hp h => by
  rw [(hg p hp).next]
  have h' : ¬ (E p).hw.isSome = true := h
  simp only [AS.apply]
  cases hw : (E p).hw with
  | none => rfl
  | some x => rw [hw] at h'; exact absurd rfl h'
theorem good_dep : ∀ i, i ≤ m → (S i).dep = (S 0).dep ∧ (S i).df = (S 0).df := by
  intro i
  induction i with
  | zero => exact fun _ => ⟨rfl, rfl⟩
  | succ i ih =>
    intro hi
    have h := hg i (by omega)
    obtain ⟨h1, h2⟩ := ih (by omega)
    rw [h.next]
    refine ⟨h1, ?_⟩
    simp only [AS.apply, h.dw]
    exact h2
/-- What an operation finds that may run now. -/
theorem DInv.reads (I : DInv l S E m D sD) {i : Nat} (hi : i ≤ m) (hD : ¬ D i) {y : Ent} (hy0 : y.h0 = (S i).hp) (hb : ∀ p, p < i → D p ∨ (entAt l S E p).free y) (ha : ∀ p, i < p → p < m → ¬ D p ∨ y.free (entAt l S E p)) :
    (∀ t, t ∈ y.f.rt → look sD.tm t = look (S i).tm t) ∧ (∀ b, b ∈ y.f.rb → look sD.bx b = look (S i).bx b) ∧
    (y.f.wh = true ∨ y.f.rh = true → sD.hp = (S i).hp ∨ (y.f.wh = false ∧ ∃ id pos n, y.ld = some (id, pos, n) ∧ hpAt sD.hp id pos n = hpAt (S i).hp id pos n)) ∧
    (∀ t, t ∈ y.f.wt → ∀ p, p < m → p ≠ i → D p → t ∈ (entAt l S E p).f.wt → p < i) ∧ (∀ b, b ∈ y.f.wb → ∀ p, p < m → p ≠ i → D p → b ∈ (entAt l S E p).f.wb → p < i) ∧
    (y.f.wh = true → ∀ p, p < m → p ≠ i → D p → (entAt l S E p).f.wh = true → p < i) := by
  refine ⟨fun t ht => ?_, fun b hb' => ?_, fun hh => ?_, fun t ht p hp hne hd hw => ?_, fun b hb' p hp hne hd hw => ?_, fun hwh p hp hne hd hw => ?_⟩
  · exact (I.tm t).read (good_tm hg t) hi hD (fun p hp hw => (hb p hp).resolve_right fun hf => (apart_spec hf.1).2.1 t hw ht) (fun p h1 h2 hw => (ha p h1 h2).resolve_right fun hf => (apart_spec hf.1).2.2.1 t ht hw)
  · exact (I.bx b).read (good_bx hg b) hi hD (fun p hp hw => (hb p hp).resolve_right fun hf => (apart_spec hf.1).2.2.2.2.1 b hw hb') (fun p h1 h2 hw => (ha p h1 h2).resolve_right fun hf => (apart_spec hf.1).2.2.2.2.2 b hb' hw)
  · -- the heap
    have hfree : ∀ p, (entAt l S E p).f.wh = true → y.calm (entAt l S E p) → (y.f.wh = true → False) ∧ y.steady (entAt l S E p) := by
      intro p hw hc
      rcases hc with h | ⟨h1, h2⟩
      · rw [h] at hw; cases hw
      · refine ⟨fun h => (by rw [h1] at h; cases h), ?_⟩
        rcases h2 with h2 | h2
        · rcases hh with h | h
          · rw [h1] at h; cases h
          · rw [h2] at h; cases h
        · exact h2
    by_cases hy : y.f.wh = true
    · left
      exact I.hp.read (good_hp hg) hi hD (fun p hp hw => (hb p hp).resolve_right fun hf => (hfree p hw hf.2.2).1 hy) (fun p h1 h2 hw => (ha p h1 h2).resolve_right fun hf => (hfree p hw hf.2.1).1 hy)
    · cases hld : y.ld with
      | none =>
        left
        have hns : ∀ z, ¬ y.steady z := fun z h => by simp only [Ent.steady, hld] at h
        exact I.hp.read (good_hp hg) hi hD (fun p hp hw => (hb p hp).resolve_right fun hf => hns _ (hfree p hw hf.2.2).2) (fun p h1 h2 hw => (ha p h1 h2).resolve_right fun hf => hns _ (hfree p hw hf.2.1).2)
      | some q =>
        obtain ⟨id, pos, n⟩ := q
        right
        have hst : ∀ p, p < m → y.steady (entAt l S E p) → hpAt (S p).hp id pos n = hpAt (S i).hp id pos n ∧ hpAt (S (p + 1)).hp id pos n = hpAt (S i).hp id pos n := by
          intro p hp h
          simp only [Ent.steady, hld, hy0] at h
          rw [good_hp1 hg p hp] at h
          exact h
        refine ⟨by simpa using hy, id, pos, n, rfl, ?_⟩
        exact I.hp.steady (f := fun h => hpAt h id pos n) (good_hp hg) hi hD (fun p hp hw => (hb p hp).imp_right fun hf => (hst p (by omega) (hfree p hw hf.2.2).2).1) (fun p h1 h2 hw => (ha p h1 h2).imp_right fun hf => (hst p h2 (hfree p hw hf.2.1).2).2)
  · rcases Nat.lt_or_ge p i with h | h
    · exact h
    · exact absurd hw ((apart_spec ((ha p (by omega) hp).resolve_left (fun h => h hd)).1).1 t ht)
  · rcases Nat.lt_or_ge p i with h | h
    · exact h
    · exact absurd hw ((apart_spec ((ha p (by omega) hp).resolve_left (fun h => h hd)).1).2.2.2.1 b hb')
  · rcases Nat.lt_or_ge p i with h | h
    · exact h
    · have := ((ha p (by omega) hp).resolve_left (fun h => h hd)).2.1
      rcases this with h' | ⟨h', _⟩
      · rw [h'] at hw; cases hw
      · rw [h'] at hwh; cases hwh
/-- An operation more. -/
theorem DInv.step (I : DInv l S E m D sD) {i : Nat} (hi : i < m) (hD : ¬ D i) (hb : ∀ p, p < i → D p ∨ (entAt l S E p).free (entAt l S E i)) (ha : ∀ p, i < p → p < m → ¬ D p ∨ (entAt l S E i).free (entAt l S E p)) :
    Stp C (opAt l i) sD.view (E i) ∧ DInv l S E m (fun p => D p ∨ p = i) (sD.apply (opAt l i).d (E i)) := by
  have G := hg i hi
  obtain ⟨r1, r2, r3, w1, w2, w3⟩ := I.reads hg (Nat.le_of_lt hi) hD (y := entAt l S E i) rfl hb ha
  obtain ⟨d1, d2⟩ := good_dep hg i (by omega)
  refine ⟨?_, ?_⟩
  · refine G.stp.same rfl ⟨I.dep.trans d1.symm, r1, r2⟩ ?_
    cases hrh : (opAt l i).op.rh (S i).view with
    | false => exact .inr (.inl rfl)
    | true =>
      rcases r3 (.inr hrh) with h | ⟨_, h⟩
      · exact .inl h
      · exact .inr (.inr h)
  · have hstep : (S (i + 1)) = (S i).apply (opAt l i).d (E i) := G.next
    refine ⟨I.dep, ?_, fun t => ?_, fun b => ?_, ?_⟩
    · simp only [AS.apply, G.dw]
      exact I.df
    · by_cases ht : t ∈ (entAt l S E i).f.wt
      · refine (I.tm t).wrote hi ht (fun p hp hd hw => w1 t ht p hp (fun e => hD (e ▸ hd)) hd hw) ?_
        show look (sD.apply _ _).tm t = look (S (i + 1)).tm t
        rw [hstep]
        exact apply_tm_in _ _ _ _ t ht
      · exact (I.tm t).stays ht (apply_tm_out _ _ _ t ht)
    · by_cases hb' : b ∈ (entAt l S E i).f.wb
      · refine (I.bx b).wrote hi hb' (fun p hp hd hw => w2 b hb' p hp (fun e => hD (e ▸ hd)) hd hw) ?_
        show look (sD.apply _ _).bx b = look (S (i + 1)).bx b
        rw [hstep]
        exact apply_bx_in _ _ _ _ b hb'
      · exact (I.bx b).stays hb' (apply_bx_out _ _ _ b hb')
    · by_cases hh : (entAt l S E i).f.wh = true
      · refine I.hp.wrote hi hh (fun p hp hd hw => w3 hh p hp (fun e => hD (e ▸ hd)) hd hw) ?_
        show (sD.apply _ _).hp = (S (i + 1)).hp
        rw [hstep]
        have hh' : (E i).hw.isSome = true := hh
        simp only [AS.apply]
        cases hw : (E i).hw with
        | none => rw [hw] at hh'; cases hh'
        | some x => rfl
      · refine I.hp.stays hh ?_
        have hh' : ¬ (E i).hw.isSome = true := hh
        show (sD.apply _ _).hp = sD.hp
        simp only [AS.apply]
        cases hw : (E i).hw with
        | none => rfl
        | some x => rw [hw] at hh'; exact absurd rfl hh'
end
end Go.Am

set_option linter.unusedSimpArgs false
set_option linter.unusedVariables false
open Go.RowKit
namespace Go.Am
section
variable {P : Program} {γ γ' : Gh} {s s' : AS} {a : Act} {w w' : World} {o : Oper}
/-- The same state, told in another way. -/
theorem SR.same (k : SR γ s a w) (hd : s'.dep = s.dep) (ht : ∀ t v, look s'.tm t = some v → look s.tm t = some v) (hb : ∀ b cs, look s'.bx b = some cs → look s.bx b = some cs) (hh : s'.hp = s.hp) (hf : s'.df = s.df) : SR γ s' a w := by
  have hw : WR γ w s'.hp := hh ▸ k.toWR
  exact { hw with tm := fun t v h => k.tm t v (ht t v h), bx := fun b cs h => k.bx b cs (hb b cs h), dep := fun t b off h => by rw [hd]; exact k.dep t b off (ht _ _ h), df := by rw [hf]; exact k.df }
theorem look_without {α : Type} {ks : List Nat} {t : Nat} {v : α} : ∀ {l : List (Nat × α)}, look (without ks l) t = some v → t ∉ ks ∧ look l t = some v
  | [], h => by cases h
  | (k, u) :: l, h => by
    simp only [without] at h
    split at h
    · rename_i hk
      obtain ⟨h1, h2⟩ := look_without h
      refine ⟨h1, ?_⟩
      simp only [look]
      split
      · rename_i hq
        have := Nat.eq_of_beq_eq_true hq
        subst this
        exact absurd (elem_mem hk) h1
      · exact h2
    · rename_i hk
      simp only [look] at h ⊢
      split at h
      · rename_i hq
        have := Nat.eq_of_beq_eq_true hq
        subst this
        refine ⟨fun hm => ?_, h⟩
        rw [List.elem_eq_true_of_mem hm] at hk
        cases hk
      · exact look_without h
theorem wtAll_mem {tr : List Ent} {i : Nat} {x : Ent} (h : tr[i]? = some x) {t : Nat} (ht : t ∈ x.f.wt) : t ∈ wtAll tr := by
  induction tr generalizing i with
  | nil => simp at h
  | cons y tr ih =>
    cases i with
    | zero => simp at h; subst h; exact List.mem_append_left _ ht
    | succ i => exact List.mem_append_right _ (ih (by simpa using h))
theorem wbAll_mem {tr : List Ent} {i : Nat} {x : Ent} (h : tr[i]? = some x) {t : Nat} (ht : t ∈ x.f.wb) : t ∈ wbAll tr := by
  induction tr generalizing i with
  | nil => simp at h
  | cons y tr ih =>
    cases i with
    | zero => simp at h; subst h; exact List.mem_append_left _ ht
    | succ i => exact List.mem_append_right _ (ih (by simpa using h))
theorem direct_mem {ops : Array Oper} {j : Nat} (ho : ops[j]? = some o) {e : Nat} : e ∈ direct ops j ↔ ∃ x ∈ o.after, Region.binds .any x = true ∧ x.on = e := by
  simp only [direct, ho, List.mem_map, List.mem_filter, Array.mem_toList_iff]
  constructor
  · rintro ⟨x, ⟨h1, h2⟩, h3⟩
    exact ⟨x, h1, h2, h3⟩
  · rintro ⟨x, h1, h2, h3⟩
    exact ⟨x, ⟨h1, h2⟩, h3⟩
structure DrawOK (ops : Array Oper) (is : List Nat) (l : List (AOper × List Nat)) : Prop where
  nodup : ∀ i j, i < is.length → j < is.length → is.getD i 0 = is.getD j 0 → i = j
  all : ∀ i, i < ops.size → ∃ p, p < is.length ∧ is.getD p 0 = i
  lin : ∀ j, j < is.length → ∀ e ∈ direct ops (is.getD j 0), ∃ p, p < j ∧ is.getD p 0 = e
  anc : ∀ j, j < is.length → ∀ i ∈ ancAt l j, i < j ∧ (is.getD i 0 ∈ direct ops (is.getD j 0) ∨ ∃ k ∈ ancAt l j, is.getD k 0 ∈ direct ops (is.getD j 0) ∧ i ∈ ancAt l k)
theorem drawOK_spec {ops : Array Oper} {is : List Nat} {l : List (AOper × List Nat)} (h : drawOK ops is (l.map (·.2)) = true) : DrawOK ops is l := by
  simp only [drawOK, Bool.and_eq_true, decide_eq_true_eq, List.all_eq_true, List.mem_range] at h
  obtain ⟨⟨h1, h2⟩, h3⟩ := h
  have hanc : ∀ j, (l.map (·.2)).getD j [] = ancAt l j := by
    intro j
    simp only [ancAt, List.getD_eq_getElem?_getD, List.getElem?_map]
    cases l[j]? <;> rfl
  refine ⟨fun i j hi hj e => ?_, fun i hi => ?_, fun j hj e he => ?_, fun j hj i hi => ?_⟩
  · rw [List.getD_eq_getElem?_getD, List.getD_eq_getElem?_getD, List.getElem?_eq_getElem hi, List.getElem?_eq_getElem hj] at e
    exact (List.getElem_inj h1).1 e
  · obtain ⟨p, hp, e⟩ := List.getElem_of_mem (elem_mem (h2 i hi))
    exact ⟨p, hp, by rw [List.getD_eq_getElem?_getD, List.getElem?_eq_getElem hp]; exact e⟩
  · obtain ⟨p, hp, e'⟩ := List.getElem_of_mem (elem_mem ((h3 j hj).1 e he))
    simp only [List.length_take] at hp
    refine ⟨p, by omega, ?_⟩
    rw [List.getElem_take] at e'
    rw [List.getD_eq_getElem?_getD, List.getElem?_eq_getElem (by omega)]
    exact e'
  · have := (h3 j hj).2 i (by rw [hanc]; exact hi)
    obtain ⟨h4, h5⟩ := this
    refine ⟨h4, ?_⟩
    simp only [Bool.or_eq_true, List.any_eq_true, Bool.and_eq_true] at h5
    rcases h5 with h5 | ⟨k, hk, h5, h6⟩
    · exact .inl (elem_mem h5)
    · rw [hanc] at hk h6
      exact .inr ⟨k, hk, elem_mem h5, elem_mem h6⟩
theorem draw_any {C : CallR} (hC : ∀ f vs h e h', C f vs h e h' → CallS P f vs h e h') {ann : Ann} {nt : Nat} {ops : Array Oper} {is : List Nat} {l : List (AOper × List Nat)} {Q : AR → AS → Prop} {γ0 : Gh} {w0 : World}
    (hL : Lines P ann nt ops is (l.map (·.1))) (hok : DrawOK ops is l) {S : Nat → AS} {E : Nat → Eff} {m : Nat} {tr : List Ent} (hm : m ≤ l.length) (hg : ∀ i, i < m → Good C l S E i) (htr : ∀ i, i < m → tr[i]? = some (entAt l S E i)) (hend : Ends C l S E m tr Q) :
    ∀ (fuel : Nat) (listed : Array Bool) (U : List Nat) (γ : Gh) (sD : AS) (a : Act) (w : World), listed.size = ops.size → U.length ≤ fuel → (∀ i, listed.getD i true = false → i ∈ U) → Ext γ0 w0 γ w → SR γ sD a w → a.tmps.size = nt →
      (∀ p, p < l.length → listed.getD (is.getD p 0) false = true → p < m) → (∀ p, p < l.length → listed.getD (is.getD p 0) false = true → ∀ e ∈ direct ops (is.getD p 0), listed.getD e false = true) →
      DInv l S E m (fun p => p < l.length ∧ listed.getD (is.getD p 0) false = true) sD → wpAny P .any ops (Post γ0 w0 nt Q) fuel listed a w := by
  obtain ⟨hlen, hget⟩ := Lines.get hL
  simp only [List.length_map] at hlen hget
  have hopAt : ∀ i, (l.map (·.1)).getD i default = opAt l i := by
    intro i
    simp only [opAt, List.getD_eq_getElem?_getD, List.getElem?_map]
    cases l[i]? <;> rfl
  intro fuel
  induction fuel with
  | zero =>
    intro listed U γ sD a w hsz hU hUm hE k hn hDm hcl I
    have hno : ∀ i, listed.getD i true ≠ false := fun i h => by
      have := hUm i h
      have h0 : U = [] := List.length_eq_zero_iff.1 (by omega)
      rw [h0] at this
      cases this
    have hr : Region.ready .any ops listed = [] := by
      rw [List.eq_nil_iff_forall_not_mem]
      intro i hi
      exact hno i (mem_ready.1 hi).1
    have hall : ∀ p, p < l.length → listed.getD (is.getD p 0) false = true := by
      intro p hp
      obtain ⟨o, ho, _⟩ := hget p hp
      have hlt : is.getD p 0 < listed.size := by rw [hsz]; exact (Array.getElem?_eq_some_iff.1 ho).1
      have := hno (is.getD p 0)
      rw [Array.getD_eq_getD_getElem?, Array.getElem?_eq_getElem hlt] at this ⊢
      simpa using this
    refine ⟨hr, ?_⟩
    rcases hend with ⟨he, hq⟩ | ⟨hlt, _⟩
    · refine ⟨.norm, S m, γ, hq, trivial, hE, ?_, hn⟩
      obtain ⟨d1, d2⟩ := good_dep hg m (Nat.le_refl _)
      exact k.same (d1.trans I.dep.symm) (fun t v h => by have := (I.tm t).done (good_tm hg t) (fun p hp _ => ⟨by omega, hall p (by omega)⟩); rw [this]; exact h)
        (fun b cs h => by have := (I.bx b).done (good_bx hg b) (fun p hp _ => ⟨by omega, hall p (by omega)⟩); rw [this]; exact h)
        (I.hp.done (good_hp hg) (fun p hp _ => ⟨by omega, hall p (by omega)⟩)).symm (d2.trans I.df.symm)
    · exact absurd (hDm m hlt (hall m hlt)) (Nat.lt_irrefl _)
  | succ fuel ih =>
    intro listed U γ sD a w hsz hU hUm hE k hn hDm hcl I
    -- what surely runs first has run
    have hanc : ∀ j, j < l.length → (∀ e ∈ direct ops (is.getD j 0), listed.getD e false = true) → ∀ i ∈ ancAt l j, i < l.length ∧ listed.getD (is.getD i 0) false = true := by
      intro j
      induction j using Nat.strongRecOn with
      | _ j ihj =>
        intro hj hdir i hi
        obtain ⟨h1, h2⟩ := hok.anc j (by omega) i hi
        rcases h2 with h2 | ⟨k', hk, h2, h3⟩
        · exact ⟨by omega, hdir _ h2⟩
        · have hkj := (hok.anc j (by omega) k' hk).1
          exact ihj k' hkj (by omega) (hcl k' (by omega) (hdir _ h2)) i h3
    refine ⟨fun hr => ?_, fun i hi => ?_⟩
    · have hall : ∀ p, p < l.length → listed.getD (is.getD p 0) false = true := by
        intro p
        induction p using Nat.strongRecOn with
        | _ p ihp =>
          intro hp
          obtain ⟨o, ho, _⟩ := hget p hp
          have hlt : is.getD p 0 < listed.size := by rw [hsz]; exact (Array.getElem?_eq_some_iff.1 ho).1
          cases hq : listed.getD (is.getD p 0) false with
          | true => rfl
          | false =>
            have : is.getD p 0 ∈ Region.ready .any ops listed := by
              refine mem_ready.2 ⟨?_, o, ho, fun e he hb => ?_⟩
              · rw [Array.getD_eq_getD_getElem?, Array.getElem?_eq_getElem hlt] at hq ⊢
                simpa using hq
              · obtain ⟨q, hq1, hq2⟩ := hok.lin p (by omega) e.on ((direct_mem ho).2 ⟨e, he, hb, rfl⟩)
                rw [← hq2]
                exact ihp q hq1 (by omega)
            rw [hr] at this
            cases this
      rcases hend with ⟨he, hq⟩ | ⟨hlt, _⟩
      · refine ⟨.norm, S m, γ, hq, trivial, hE, ?_, hn⟩
        obtain ⟨d1, d2⟩ := good_dep hg m (Nat.le_refl _)
        exact k.same (d1.trans I.dep.symm) (fun t v h => by have := (I.tm t).done (good_tm hg t) (fun p hp _ => ⟨by omega, hall p (by omega)⟩); rw [this]; exact h)
          (fun b cs h => by have := (I.bx b).done (good_bx hg b) (fun p hp _ => ⟨by omega, hall p (by omega)⟩); rw [this]; exact h)
          (I.hp.done (good_hp hg) (fun p hp _ => ⟨by omega, hall p (by omega)⟩)).symm (d2.trans I.df.symm)
      · exact absurd (hDm m hlt (hall m hlt)) (Nat.lt_irrefl _)
    · obtain ⟨hnl, o, ho, hed⟩ := mem_ready.1 hi
      have hilt : i < ops.size := (Array.getElem?_eq_some_iff.1 ho).1
      obtain ⟨p, hp, rfl⟩ := hok.all i hilt
      rw [hlen] at hp
      have hdir : ∀ e ∈ direct ops (is.getD p 0), listed.getD e false = true := fun e he => by
        obtain ⟨x, hx, hb, rfl⟩ := (direct_mem ho).1 he
        exact hed x hx hb
      have hD : ¬ (p < l.length ∧ listed.getD (is.getD p 0) false = true) := by
        rintro ⟨_, h⟩
        have hlt : is.getD p 0 < listed.size := by rw [hsz]; exact hilt
        rw [Array.getD_eq_getD_getElem?, Array.getElem?_eq_getElem hlt] at hnl h
        simp only [Option.getD_some] at hnl h
        rw [hnl] at h
        cases h
      have hancp := hanc p hp hdir
      have hafter : ∀ q, q < m → (ancAt l q).elem p = true → ¬ (q < l.length ∧ listed.getD (is.getD q 0) false = true) := fun q hq hel hd => by
        exact hD (hanc q hd.1 (hcl q hd.1 hd.2) p (elem_mem hel))
      obtain ⟨o', ho', hc⟩ := hget p hp
      rw [ho] at ho'
      cases ho'
      rw [hopAt] at hc
      simp only [wpOp, ho]
      rcases Nat.lt_or_ge p m with hpm | hpm
      · -- a step
        obtain ⟨hstp, I'⟩ := I.step hg hpm hD (fun q hq => ((hg p hpm).free q hq).imp_left fun h => hancp q (elem_mem h)) (fun q h1 h2 => ((hg q h2).free p h1).imp_left fun h => hafter q h2 h)
        have hmem : is.getD p 0 ∈ U := hUm _ hnl
        have key := stp_sound (Q := Q) hC (K := wpAny P .any ops (Post γ0 w0 nt Q) fuel (listed.setIfInBounds (is.getD p 0) true)) hc hE k hn hstp (hg p hpm).dw (fun γ' a' w' h1 h2 h3 => by
          refine ih _ (U.erase (is.getD p 0)) γ' _ a' w' (by simp [hsz]) (by rw [List.length_erase_of_mem hmem]; omega) (fun j hj => ?_) h1 h2 h3 (fun q hq hl => ?_) (fun q hq hl e he => ?_) ?_
          · by_cases e : is.getD p 0 = j
            · subst e
              rw [Array.getD_eq_getD_getElem?, Array.getElem?_setIfInBounds, if_pos rfl, if_pos (by rw [hsz]; exact hilt)] at hj
              cases hj
            · rw [getD_set_ne _ e] at hj
              exact (List.mem_erase_of_ne (fun h => e h.symm)).2 (hUm j hj)
          · by_cases e : is.getD p 0 = is.getD q 0
            · have := hok.nodup p q (by omega) (by omega) e
              omega
            · rw [getD_set_ne _ e] at hl
              exact hDm q hq hl
          · by_cases e1 : is.getD p 0 = is.getD q 0
            · rw [← e1] at he
              exact getD_set_true (hdir e he)
            · rw [getD_set_ne _ e1] at hl
              exact getD_set_true (hcl q hq hl e he)
          · have hiff : ∀ q, (((q < l.length ∧ listed.getD (is.getD q 0) false = true) ∨ q = p) ↔ (q < l.length ∧ (listed.setIfInBounds (is.getD p 0) true).getD (is.getD q 0) false = true)) := by
              intro q
              constructor
              · rintro (⟨h1, h2⟩ | rfl)
                · exact ⟨h1, getD_set_true h2⟩
                · refine ⟨hp, ?_⟩
                  rw [Array.getD_eq_getD_getElem?, Array.getElem?_setIfInBounds, if_pos rfl, if_pos (by rw [hsz]; exact hilt)]
                  rfl
              · rintro ⟨h1, h2⟩
                by_cases e : is.getD p 0 = is.getD q 0
                · exact .inr (hok.nodup p q (by omega) (by omega) e).symm
                · rw [getD_set_ne _ e] at h2
                  exact .inl ⟨h1, h2⟩
            exact ⟨I'.dep, I'.df, fun t => (I'.tm t).congr fun q _ => hiff q, fun b => (I'.bx b).congr fun q _ => hiff q, I'.hp.congr fun q _ => hiff q⟩)
        split
        · rename_i hw
          rw [if_pos hw] at key
          exact .inl key
        · rename_i hw
          rw [if_neg hw] at key
          exact key
      · -- the end of it
        rcases hend with ⟨he, _⟩ | ⟨hlt, v, h', hpan, hfree, hafterm, hq⟩
        · omega
        · have hpe : p = m := by
            rcases Nat.lt_or_ge m p with h | h
            · have := hancp m (elem_mem (hafterm p h hp))
              exact absurd (hDm m hlt this.2) (Nat.lt_irrefl _)
            · omega
          subst hpe
          obtain ⟨r1, r2, r3, _, _, _⟩ := I.reads hg (Nat.le_refl _) hD (y := ent (opAt l p) (S p) { v := .tup [], hw := some h' }) rfl (fun q hq => (hfree q hq).imp_left fun h => hancp q (elem_mem h)) (fun q h1 h2 => absurd h2 (by omega))
          have hhp : sD.hp = (S p).hp := by
            rcases r3 (.inl rfl) with h | ⟨h, _⟩
            · exact h
            · cases h
          obtain ⟨d1, d2⟩ := good_dep hg p (Nat.le_refl _)
          have hp2 : Pan C (opAt l p) sD.view v h' := hpan.same ⟨I.dep.trans d1.symm, fun t ht => r1 t ht, fun b hb => by cases hb⟩ hhp
          have key := pan_sound (Q := Q) hC (K := wpAny P .any ops (Post γ0 w0 nt Q) fuel (listed.setIfInBounds (is.getD p 0) true)) hc hE k hn hp2 (fun e a' w' γ' h1 h2 h3 h4 => by
            refine ⟨.panic v, _, γ', hq, h1, h2, ?_, h4⟩
            refine h3.same (d1.trans I.dep.symm) (fun t u hu => ?_) (fun b cs hb => ?_) rfl (d2.trans I.df.symm)
            · obtain ⟨n1, n2⟩ := look_without hu
              have := (I.tm t).done (good_tm hg t) (fun q hq hw => absurd (wtAll_mem (htr q hq) hw) n1)
              rw [this]
              exact n2
            · obtain ⟨n1, n2⟩ := look_without hb
              have := (I.bx b).done (good_bx hg b) (fun q hq hw => absurd (wbAll_mem (htr q hq) hw) n1)
              rw [this]
              exact n2)
          split
          · rename_i hw
            rw [if_pos hw] at key
            exact .inl key
          · rename_i hw
            rw [if_neg hw] at key
            exact key
end
end Go.Am

set_option linter.unusedSimpArgs false
set_option linter.unusedVariables false
open Go.RowKit
namespace Go.Am

/-! ### 20. Code -/
def loopW (W : AS → (AR → AS → Prop) → Prop) : Nat → AS → (AR → AS → Prop) → Prop
  | 0, _, _ => False
  | n + 1, s, Q => W s fun r s1 => match r with
    | .norm => loopW W n s1 Q
    | r => Q r s1
/-- Less is told of the same. -/
def Weak (s s0 : AS) : Prop := ∀ (γ : Gh) (a : Act) (w : World), SR γ s a w → SR γ s0 a w
theorem Weak.refl (s : AS) : Weak s s := fun _ _ _ h => h
theorem Weak.trans {s s1 s2 : AS} (h : Weak s s1) (k : Weak s1 s2) : Weak s s2 := fun γ a w q => k γ a w (h γ a w q)
theorem Weak.keep (s : AS) (ks bs : List Nat) : Weak s (s.keep ks bs) := fun γ a w h => h.same rfl (fun _ _ => look_only _) (fun _ _ => look_only _) rfl rfl
def awp (C : CallR) : AC → AS → (AR → AS → Prop) → Prop
  | .skip, s, Q => Q .norm s
  | .ops l, s, Q => awpOps C l s Q
  | .draw l, s, Q => drawGo C l 0 [] s Q
  | .seq a b, s, Q => awp C a s fun r s1 => match r with
    | .norm => ∃ s2, Weak s1 s2 ∧ awp C b s2 Q
    | r => Q r s1
  | .cond c a b, s, Q => match s.view.ev c with
    | some (.bool true) => awp C a s Q
    | some (.bool false) => awp C b s Q
    | _ => False
  | .blk id a, s, Q => awp C a s fun r s1 => match r with
    | .exit id' => if id' = id then Q .norm s1 else Q (.exit id') s1
    | r => Q r s1
  | .loop a, s, Q => ∃ n, loopW (fun s Q => ∃ s2, Weak s s2 ∧ awp C a s2 Q) n s Q
  | .exit id, s, Q => Q (.exit id) s
  | .ret, s, Q => Q .ret s
  | .keep ks bs a, s, Q => awp C a s fun r s1 => match r with
    | .norm => Q .norm (s1.keep ks bs)
    | r => Q r s1
  | .bad, _, _ => False
def cmpL (P : Program) (ann : Ann) (nt : Nat) (ops : Array Oper) : List Nat → Option (List AOper)
  | [] => some []
  | i :: is => match (ops[i]?).bind (cmpO P ann nt ops), cmpL P ann nt ops is with
    | some o, some l => some (o :: l)
    | _, _ => none
theorem cmpL_lines {P : Program} {ann : Ann} {nt : Nat} {ops : Array Oper} : ∀ {is : List Nat} {aos : List AOper}, cmpL P ann nt ops is = some aos → Lines P ann nt ops is aos
  | [], aos, h => by cases h; trivial
  | i :: is, aos, h => by
    simp only [cmpL] at h
    split at h
    · rename_i o l h1 h2
      cases h
      rw [Option.bind_eq_some_iff] at h1
      exact ⟨h1, cmpL_lines h2⟩
    · cases h
def zipA : List AOper → List (Nat × List Nat) → List (AOper × List Nat)
  | o :: os, (_, anc) :: r => (o, anc) :: zipA os r
  | _, _ => []
theorem zipA_spec : ∀ {os : List AOper} {r : List (Nat × List Nat)}, os.length = r.length → (zipA os r).map (·.1) = os ∧ (zipA os r).map (·.2) = r.map (·.2)
  | [], [], _ => ⟨rfl, rfl⟩
  | o :: os, (_, anc) :: r, h => by
    obtain ⟨h1, h2⟩ := zipA_spec (os := os) (r := r) (by simpa using h)
    exact ⟨by simp [zipA, h1], by simp [zipA, h2]⟩
  | [], _ :: _, h => by simp at h
  | _ :: _, [], h => by simp at h
def kept (k : Option (List Nat × List Nat)) (a : AC) : AC := match k with
  | none => a
  | some (ks, bs) => .keep ks bs a
/-- 'liv': what is still wanted behind a region. 'ran': of each region whose order is drawn its operations in some order, each with those that surely run ahead. -/
def cmpC (P : Program) (ann : Ann) (ran : Nat → List (Nat × List Nat)) (liv : Nat → Option (List Nat × List Nat)) (nt : Nat) : Code → Option AC
  | .skip => some .skip
  | .label _ => some .skip
  | .region id ops false => (cmpL P ann nt ops (List.range ops.size)).map fun l => kept (liv id) (.ops l)
  | .region id ops true => match cmpL P ann nt ops ((ran id).map (·.1)) with
    | some os => match P.follows .mixedOrders, drawOK ops ((ran id).map (·.1)) ((ran id).map (·.2)) with
      | true, true => some (kept (liv id) (.draw (zipA os (ran id))))
      | _, _ => none
    | none => none
  | .seq a b => match cmpC P ann ran liv nt a, cmpC P ann ran liv nt b with
    | some a, some b => some (.seq a b)
    | _, _ => none
  | .cond c a b => match cmpX c, cmpC P ann ran liv nt a, cmpC P ann ran liv nt b with
    | some c, some a, some b => some (.cond c a b)
    | _, _, _ => none
  | .block id a => (cmpC P ann ran liv nt a).map (.blk id)
  | .loop a => (cmpC P ann ran liv nt a).map .loop
  | .exit id => some (.exit id)
  | .ret => some .ret
  | _ => none
section
variable {P : Program} {γ γ' : Gh} {s : AS} {a : Act} {w w' : World}
theorem wp_loop_n {c : Code} {Q : Exit → Act → World → Prop} {R : Nat → Act → World → Prop} (h0 : ∀ a w, ¬ R 0 a w) (round : ∀ n a w, R (n + 1) a w → c.wp P (Exit.then (R n) Q) a w) : ∀ n a w, R n a w → (Code.loop c).wp P Q a w := by
  intro n a w h b k cs
  have key : ∀ n a w, R n a w → ∃ e a' w', Q e a' w' ∧ Arrives P (lone (b.at a (.code c :: .inLoop c :: k)) cs w) b k cs e a' w' := by
    intro n
    induction n with
    | zero => exact fun a w h => (h0 a w h).elim
    | succ n ih =>
      intro a w h
      obtain ⟨e, a₁, w₁, hq, harr⟩ := round n a w h b (.inLoop c :: k) cs
      cases e with
      | normal =>
        obtain ⟨e₂, a₂, w₂, hq₂, harr₂⟩ := ih a₁ w₁ hq
        exact ⟨e₂, a₂, w₂, hq₂, .of_steps (Steps.trans harr (.one step_inLoop)) harr₂⟩
      | exit id => exact ⟨_, a₁, w₁, hq, .pass (x := .inLoop c) rfl (fun _ _ => .inl (by simp)) harr⟩
      | goto l => exact ⟨_, a₁, w₁, hq, .pass (x := .inLoop c) rfl (fun _ _ => .inl (by simp)) harr⟩
      | ret => exact ⟨_, a₁, w₁, hq, .pass (x := .inLoop c) rfl (fun _ _ => .inl (by simp)) harr⟩
      | panic ch => exact ⟨_, a₁, w₁, hq, .pass (x := .inLoop c) rfl (fun _ _ => .inl (by simp)) harr⟩
      | outgrown => exact ⟨_, a₁, w₁, hq, .pass (x := .inLoop c) rfl (fun _ _ => .inl (by simp)) harr⟩
  obtain ⟨e, a', w', hq, harr⟩ := key n a w h
  exact ⟨e, a', w', hq, .of_steps (.one step_loop) harr⟩
theorem SR.drew (k : SR γ s a w) : Ext γ w γ { w with drawn := w.drawn + 1 } ∧ SR γ s a { w with drawn := w.drawn + 1 } := by
  have g := (Grew.refl k.fresh).drew
  exact ⟨g.ext, k.grew g⟩
theorem draw_sound {C : CallR} (hC : ∀ f vs h e h', C f vs h e h' → CallS P f vs h e h') {ann : Ann} {nt id : Nat} {ops : Array Oper} {is : List Nat} {l : List (AOper × List Nat)} {Q : AR → AS → Prop} {γ0 : Gh} {w0 : World}
    (hL : Lines P ann nt ops is (l.map (·.1))) (hm : P.follows .mixedOrders = true) (hok : drawOK ops is (l.map (·.2)) = true) (hE : Ext γ0 w0 γ w) (k : SR γ s a w) (hn : a.tmps.size = nt) (h : drawGo C l 0 [] s Q) :
    (Code.region id ops true).wp P (Post γ0 w0 nt Q) a w := by
  refine wp_region_any hm ?_
  obtain ⟨S, E, m, tr, h0, h1, h2, h3, h4⟩ := drawGo_spec l [] (fun _ => s) (fun _ => default) [] rfl (fun i hi => by simp at hi) h
  rw [List.nil_append] at h1 h3 h4
  obtain ⟨e1, k1⟩ := k.drew
  have hnot : ∀ i, (Array.replicate ops.size false).getD i false = false := by
    intro i
    rw [Array.getD_eq_getD_getElem?, Array.getElem?_replicate]
    split <;> rfl
  have hno : ∀ p, ¬ (p < l.length ∧ (Array.replicate ops.size false).getD (is.getD p 0) false = true) := fun p h => by
    rw [hnot] at h
    cases h.2
  have hinv : ∀ {β : Type} (comp : AS → β) (W : Nat → Prop), comp s = comp (S 0) → CompInv S m comp W (fun p => p < l.length ∧ (Array.replicate ops.size false).getD (is.getD p 0) false = true) s := fun comp W e =>
    ⟨0, Nat.zero_le _, e, fun p _ hd _ => absurd hd (hno p), .inl rfl⟩
  refine draw_any hC hL (drawOK_spec hok) h1 (fun i hi => (h3 i hi).1) (fun i hi => (h3 i hi).2) h4 ops.size _ (List.range ops.size) γ s a _ (by simp) (by simp) (fun i hi => ?_) (hE.trans e1) k1 hn (fun p hp hl => absurd ⟨hp, hl⟩ (hno p)) (fun p hp hl => absurd ⟨hp, hl⟩ (hno p)) ?_
  · rw [Array.getD_eq_getD_getElem?, Array.getElem?_replicate] at hi
    split at hi
    · rename_i hlt
      exact List.mem_range.2 hlt
    · cases hi
  · exact ⟨by rw [h0], by rw [h0], fun t => hinv _ _ (by rw [h0]), fun b => hinv _ _ (by rw [h0]), hinv _ _ (by rw [h0])⟩
theorem kept_sound {C : CallR} {γ0 : Gh} {w0 : World} {nt : Nat} {c : Code} {x : AC} {k : Option (List Nat × List Nat)} {Q : AR → AS → Prop} (hx : ∀ Q, awp C x s Q → c.wp P (Post γ0 w0 nt Q) a w) (h : awp C (kept k x) s Q) : c.wp P (Post γ0 w0 nt Q) a w := by
  cases k with
  | none => exact hx Q h
  | some k =>
    refine wp_mono (hx _ h) fun e a' w' hp => ?_
    obtain ⟨r, s', γ', q1, q2, q3, q4, q5⟩ := hp
    cases r with
    | norm => exact ⟨.norm, _, γ', q1, q2, q3, Weak.keep _ _ _ _ _ _ q4, q5⟩
    | exit id => exact ⟨.exit id, s', γ', q1, q2, q3, q4, q5⟩
    | ret => exact ⟨.ret, s', γ', q1, q2, q3, q4, q5⟩
    | panic v => exact ⟨.panic v, s', γ', q1, q2, q3, q4, q5⟩
theorem awp_sound {C : CallR} (hC : ∀ f vs h e h', C f vs h e h' → CallS P f vs h e h') {ann : Ann} {ran : Nat → List (Nat × List Nat)} {liv : Nat → Option (List Nat × List Nat)} {nt : Nat} {γ0 : Gh} {w0 : World} :
    ∀ (c : Code) (ac : AC), cmpC P ann ran liv nt c = some ac → ∀ (Q : AR → AS → Prop) (γ : Gh) (s : AS) (a : Act) (w : World), Ext γ0 w0 γ w → SR γ s a w → a.tmps.size = nt → awp C ac s Q → c.wp P (Post γ0 w0 nt Q) a w := by
  intro c
  induction c with
  | skip =>
    intro ac hc Q γ s a w hE k hn h
    cases hc
    exact wp_skip ⟨.norm, s, γ, h, trivial, hE, k, hn⟩
  | label l =>
    intro ac hc Q γ s a w hE k hn h
    cases hc
    exact wp_label ⟨.norm, s, γ, h, trivial, hE, k, hn⟩
  | region id ops draw =>
    intro ac hc Q γ s a w hE k hn h
    cases draw with
    | false =>
      simp only [cmpC, Option.map_eq_some_iff] at hc
      obtain ⟨l, h1, rfl⟩ := hc
      exact kept_sound (x := .ops l) (fun Q h => wp_region (ops_sound hC _ _ (cmpL_lines h1) γ s a w hE k hn h)) h
    | true =>
      simp only [cmpC] at hc
      split at hc
      · rename_i os h1
        split at hc
        · rename_i h2 h3
          cases hc
          have hl := cmpL_lines h1
          have hlen : os.length = (ran id).length := by
            have := (Lines.get hl).1
            simpa using this.symm
          obtain ⟨z1, z2⟩ := zipA_spec hlen
          exact kept_sound (x := .draw (zipA os (ran id))) (fun Q h => draw_sound hC (l := zipA os (ran id)) (by rw [z1]; exact hl) h2 (by rw [z2]; exact h3) hE k hn h) h
        · cases hc
      · cases hc
  | seq x y ihx ihy =>
    intro ac hc Q γ s a w hE k hn h
    simp only [cmpC] at hc
    split at hc
    · rename_i ax ay h1 h2
      cases hc
      refine wp_seq (wp_mono (ihx ax h1 _ γ s a w hE k hn h) fun e a' w' hp => ?_)
      obtain ⟨r, s', γ', q1, q2, q3, q4, q5⟩ := hp
      cases r with
      | norm =>
        cases e <;> first | exact q2.elim | skip
        obtain ⟨s2, hw, q1⟩ := q1
        exact ihy ay h2 Q γ' s2 a' w' q3 (hw _ _ _ q4) q5 q1
      | exit id => cases e <;> first | exact q2.elim | exact ⟨.exit id, s', γ', q1, q2, q3, q4, q5⟩
      | ret => cases e <;> first | exact q2.elim | exact ⟨.ret, s', γ', q1, q2, q3, q4, q5⟩
      | panic v => cases e <;> first | exact q2.elim | exact ⟨.panic v, s', γ', q1, q2, q3, q4, q5⟩
    · cases hc
  | cond c x y ihx ihy =>
    intro ac hc Q γ s a w hE k hn h
    simp only [cmpC] at hc
    split at hc
    · rename_i cx ax ay h0 h1 h2
      cases hc
      simp only [awp] at h
      split at h
      · rename_i hv
        exact wp_cond_true (show Rel γ w (.bool true) _ from ev_rel k h0 hv).bool_ (ihx ax h1 Q γ s a w hE k hn h)
      · rename_i hv
        exact wp_cond_false (show Rel γ w (.bool false) _ from ev_rel k h0 hv).bool_ (ihy ay h2 Q γ s a w hE k hn h)
      · exact h.elim
    · cases hc
  | block id x ihx =>
    intro ac hc Q γ s a w hE k hn h
    simp only [cmpC, Option.map_eq_some_iff] at hc
    obtain ⟨ax, h1, rfl⟩ := hc
    refine wp_block (wp_mono (ihx ax h1 _ γ s a w hE k hn h) fun e a' w' hp => ?_)
    obtain ⟨r, s', γ', q1, q2, q3, q4, q5⟩ := hp
    cases r with
    | norm => cases e <;> first | exact q2.elim | exact ⟨.norm, s', γ', q1, trivial, q3, q4, q5⟩
    | exit id' =>
      cases e <;> first | exact q2.elim | skip
      rename_i id2
      have : id' = id2 := q2
      subst this
      simp only [Exit.inBlock]
      simp only at q1
      split
      · rename_i e
        rw [if_pos e] at q1
        exact ⟨.norm, s', γ', q1, trivial, q3, q4, q5⟩
      · rename_i e
        rw [if_neg e] at q1
        exact ⟨.exit id', s', γ', q1, rfl, q3, q4, q5⟩
    | ret => cases e <;> first | exact q2.elim | exact ⟨.ret, s', γ', q1, q2, q3, q4, q5⟩
    | panic v => cases e <;> first | exact q2.elim | exact ⟨.panic v, s', γ', q1, q2, q3, q4, q5⟩
  | loop x ihx =>
    intro ac hc Q γ s a w hE k hn h
    simp only [cmpC, Option.map_eq_some_iff] at hc
    obtain ⟨ax, h1, rfl⟩ := hc
    obtain ⟨n, h⟩ := h
    refine wp_loop_n (R := fun n a w => ∃ γ s, Ext γ0 w0 γ w ∧ SR γ s a w ∧ a.tmps.size = nt ∧ loopW (fun s Q => ∃ s2, Weak s s2 ∧ awp C ax s2 Q) n s Q) (fun a w ⟨_, _, _, _, _, h⟩ => h) (fun n a w hR => ?_) n a w ⟨γ, s, hE, k, hn, h⟩
    obtain ⟨γ, s, hE, k, hn, s2, hw, h⟩ := hR
    refine wp_mono (ihx ax h1 _ γ s2 a w hE (hw _ _ _ k) hn h) fun e a' w' hp => ?_
    obtain ⟨r, s', γ', q1, q2, q3, q4, q5⟩ := hp
    cases r with
    | norm =>
      cases e <;> first | exact q2.elim | skip
      exact ⟨γ', s', q3, q4, q5, q1⟩
    | exit id => cases e <;> first | exact q2.elim | exact ⟨.exit id, s', γ', q1, q2, q3, q4, q5⟩
    | ret => cases e <;> first | exact q2.elim | exact ⟨.ret, s', γ', q1, q2, q3, q4, q5⟩
    | panic v => cases e <;> first | exact q2.elim | exact ⟨.panic v, s', γ', q1, q2, q3, q4, q5⟩
  | exit id =>
    intro ac hc Q γ s a w hE k hn h
    cases hc
    exact wp_exit ⟨.exit id, s, γ, h, rfl, hE, k, hn⟩
  | ret =>
    intro ac hc Q γ s a w hE k hn h
    cases hc
    exact wp_ret ⟨.ret, s, γ, h, trivial, hE, k, hn⟩
  | _ =>
    intro ac hc
    cases hc
end
end Go.Am

set_option linter.unusedSimpArgs false
set_option linter.unusedVariables false
open Go.RowKit
namespace Go.Am

/-! ### 21. Into a function, and out of it -/
def inL : Owner → Owner
  | .sp (.hp id k) => .sp (.hp id k)
  | .sp _ => .foreign
  | .box _ => .foreign
  | o => o
def Gh.enter (γ : Gh) : Gh := { γ with own := fun b j => inL (γ.own b j) }
def outL : Owner → Owner
  | .sp (.tm ..) => .dead
  | .sp (.bx ..) => .dead
  | .box _ => .dead
  | o => o
def Gh.leave (γ γ' : Gh) : Gh := { γ' with own := fun b j => if γ'.own b j = .foreign then γ.own b j else outL (γ'.own b j), bxb := γ.bxb }
section
variable {P : Program} {γ γ' : Gh} {s : AS} {a : Act} {w w' : World}
theorem enter_ext (γ : Gh) (w : World) : Mono γ w γ.enter w :=
  ⟨fun b j h => ⟨by show inL (γ.own b j) = _; rw [h]; rfl, rfl⟩, fun b arr _ _ h => ⟨arr, h, rfl⟩, fun _ _ => rfl, Nat.le_refl _⟩
theorem enter_WR {h : List HObj} (k : WR γ w h) : WR γ.enter w h := by
  have m := enter_ext γ w
  refine ⟨k.below, k.base, fun b j hb => ?_, fun b j hb => ?_, k.nh, fun id o ho => ?_⟩
  · show inL (γ.own b j) = _
    rw [k.ownb b j hb]; rfl
  · show inL (γ.own b j) = _
    rw [k.fresh b j hb]; rfl
  · have := k.hp id o ho
    cases o with
    | obj cs =>
      obtain ⟨arr, ty, h1, h2, h3, h4, h5, h6⟩ := this
      exact ⟨arr, ty, h1, h2, fun k c v hc hv => (h3 k c v hc hv).mono m fun b j hb => by show inL (γ.own b j) = _; rw [hb]; rfl, h4, fun j => by show inL (γ.own (γ.blk id) j) = _; rw [h5]; rfl, h6⟩
    | dead => trivial
    | map es =>
      obtain ⟨ms, clock, h1, h2, h3, h4, h5⟩ := this
      exact ⟨ms, clock, h1, h2, fun i k v e he hm => ⟨(h3 i k v e he hm).1.mono m, (h3 i k v e he hm).2.mono m⟩, fun j => by show inL (γ.own (γ.blk id) j) = _; rw [h4]; rfl, h5⟩
theorem leave_mono (γ γ' : Gh) (w' : World) : Mono γ' w' (γ.leave γ') w' :=
  ⟨fun b j h => ⟨by show (if _ then _ else _) = _; rw [if_neg (by rw [h]; simp), h]; rfl, rfl⟩, fun b arr _ _ h => ⟨arr, h, rfl⟩, fun _ _ => rfl, Nat.le_refl _⟩
theorem leave_own {b j : Nat} {o : Owner} (h : γ'.own b j = o) (h1 : o ≠ .foreign) (h2 : outL o = o) : (γ.leave γ').own b j = o := by
  show (if _ then _ else _) = _
  rw [if_neg (by rw [h]; exact h1), h, h2]
theorem leave_WR {h : List HObj} (k : WR γ' w' h) : WR (γ.leave γ') w' h := by
  have m := leave_mono γ γ' w'
  refine ⟨k.below, k.base, fun b j hb => leave_own (k.ownb b j hb) (by simp) rfl, fun b j hb => leave_own (k.fresh b j hb) (by simp) rfl, k.nh, fun id o ho => ?_⟩
  have := k.hp id o ho
  cases o with
  | obj cs =>
    obtain ⟨arr, ty, h1, h2, h3, h4, h5, h6⟩ := this
    exact ⟨arr, ty, h1, h2, fun k c v hc hv => (h3 k c v hc hv).mono m fun b j hb => leave_own hb (by simp) rfl, h4, fun j => leave_own (h5 j) (by simp) rfl, h6⟩
  | dead => trivial
  | map es =>
    obtain ⟨ms, clock, h1, h2, h3, h4, h5⟩ := this
    exact ⟨ms, clock, h1, h2, fun i k v e he hm => ⟨(h3 i k v e he hm).1.mono m, (h3 i k v e he hm).2.mono m⟩, fun j => leave_own (h4 j) (by simp) rfl, h5⟩
theorem leave_kept (k : Ext γ.enter w γ' w') : Kept γ w (γ.leave γ') w' := by
  have hf : ∀ b j, inL (γ.own b j) = .foreign → (γ.leave γ').own b j = γ.own b j ∧ w'.cell? ⟨b, j, none⟩ = w.cell? ⟨b, j, none⟩ := fun b j h => by
    obtain ⟨h1, h2⟩ := k.foreign b j h
    refine ⟨?_, h2⟩
    show (if _ then _ else _) = _
    rw [if_pos h1]
  refine ⟨⟨⟨fun b j h => ?_, k.shape, k.blk, k.nh⟩, fun b j h => ?_, k.n0, k.w0, k.size⟩, fun b j h => ?_, rfl⟩
  · obtain ⟨h1, h2⟩ := k.claim b j (by show inL (γ.own b j) = _; rw [h]; rfl)
    exact ⟨leave_own h1 (by simp) rfl, h2⟩
  · obtain ⟨h1, h2⟩ := hf b j (by rw [h]; rfl)
    exact ⟨h1.trans h, h2⟩
  · exact hf b j (by
      cases hq : γ.own b j with
      | sp l => cases l <;> first | rfl | (rw [hq] at h; cases h)
      | box b => rfl
      | _ => rw [hq] at h; cases h)
theorem leave_ret {v : AV} {c : Value} (hv : ∀ b off, v ≠ .lptr b off) (h : RelT γ' w' retL v c) : RelT (γ.leave γ') w' retL v c :=
  h.mono (leave_mono γ γ' w') (fun i k b j hb => leave_own hb (by simp) rfl) (fun b off e => absurd e (hv b off))

/-! Arguments -/
def number : Nat → List AV → List (Nat × AV)
  | _, [] => []
  | i, v :: vs => (i, v) :: number (i + 1) vs
theorem look_number : ∀ {vs : List AV} {i t : Nat} {v : AV}, look (number i vs) t = some v → i ≤ t ∧ vs[t - i]? = some v
  | [], i, t, v, h => by cases h
  | u :: vs, i, t, v, h => by
    simp only [number, look] at h
    split at h
    · rename_i hq
      have := Nat.eq_of_beq_eq_true hq
      subst this
      cases h
      simp
    · obtain ⟨h1, h2⟩ := look_number h
      refine ⟨by omega, ?_⟩
      rw [show t - i = (t - (i + 1)) + 1 by omega]
      simpa using h2
def AFun.init (F : AFun) (vs : List AV) (h : List HObj) : AS := { dep := F.dep, tm := number 0 vs, bx := [], hp := h, df := [] }
theorem init_SR {F : AFun} {vs : List AV} {h : List HObj} {args : Array Value} {n : Nat} (k : WR γ w h) (hr : RelAll γ w vs args) : SR γ.enter (F.init vs h) { tmps := args ++ Array.replicate n undef, defers := [] } w := by
  have hrel : ∀ t v, look (number 0 vs) t = some v → ∃ c, Rel γ w v c ∧ (args ++ Array.replicate n undef).getD t undef = c := by
    intro t v hv
    obtain ⟨_, h2⟩ := look_number hv
    have hlt : t < vs.length := (List.getElem?_eq_some_iff.1 h2).1
    have hlt' : t < args.size := by rw [hr.1]; exact hlt
    refine ⟨args[t], hr.2 t v _ h2 (Array.getElem?_eq_getElem hlt'), ?_⟩
    rw [Array.getD_eq_getD_getElem?, Array.getElem?_append_left hlt', Array.getElem?_eq_getElem hlt']
    rfl
  refine { enter_WR k with tm := fun t v hv => ?_, bx := fun b cs hb => (by cases hb), dep := fun t b off hv => ?_, df := ⟨rfl, fun i d f vs hd => by simp at hd⟩ }
  · obtain ⟨c, h1, h2⟩ := hrel t v hv
    show RelT _ _ _ _ ((args ++ Array.replicate n undef).getD t undef)
    rw [h2]
    exact (h1.mono (enter_ext γ w)).t
  · obtain ⟨c, h1, h2⟩ := hrel t _ hv
    cases h1

/-! Results -/
def aRes (s : AS) : List ARes → Option (List AV × AS)
  | [] => some ([], s)
  | .tmp t :: r => match look s.tm t with
    | some v => match v.isV, aRes { s with tm := put s.tm t v.dg } r with
      | true, some (vs, s') => some (v :: vs, s')
      | _, _ => none
    | none => none
  | .cell a n ag :: r => match look s.tm a with
    | some p => match s.view.at p n with
      | some cs => match mkv ag cs, aRes s r with
        | some v, some (vs, s') => some (v.dg :: vs, s')
        | _, _ => none
      | none => none
    | none => none
def one1 : List AV → AV
  | [v] => v
  | vs => .tup vs
def cmpR (P : Program) : List ResultVar → Option (List ARes)
  | [] => some []
  | .tmp t :: r => (cmpR P r).map (.tmp t :: ·)
  | .cell a t :: r => match szT P t, agT P t, cmpR P r with
    | some n, some ag, some r => if ag = true ∨ n = 1 then some (.cell a n ag :: r) else none
    | _, _, _ => none
def resVal (tmps : Array Value) : ResultVar → Sem Value
  | .tmp t => pure (tmps.getD t undef)
  | .cell x t => do loadVar t (← asAddr (tmps.getD x undef))
theorem aRes_sound : ∀ {rs : List ResultVar} {l : List ARes}, cmpR P rs = some l → ∀ {γ : Gh} {s : AS} {vs : List AV} {s' : AS} (i : Nat), SR γ s a w → aRes s l = some (vs, s') →
    ∃ γ' cs, Ext γ w γ' w ∧ WR γ' w s'.hp ∧ s'.hp = s.hp ∧ (∀ j v c, RelC γ w (retL j) v c → RelC γ' w (retL j) v c) ∧
      (rs.mapM (m := Sem) (resVal a.tmps)).run P w = .ok cs w ∧ cs.length = vs.length ∧
      ∀ (j : Nat) (v : AV) (c : Value), vs[j]? = some v → cs[j]? = some c → RelC γ' w (retL (i + j)) v c ∧ v.isV = true
  | [], l, hl, γ, s, vs, s', i, k, h => by
    cases hl
    cases h
    exact ⟨γ, [], Ext.refl γ w, k.toWR, rfl, fun _ _ _ h => h, rfl, rfl, fun j v c hv => by simp at hv⟩
  | .tmp t :: rs, l, hl, γ, s, vs, s', i, k, h => by
    simp only [cmpR, Option.map_eq_some_iff] at hl
    obtain ⟨l', h1, rfl⟩ := hl
    simp only [aRes] at h
    split at h
    · rename_i v hv
      split at h
      · rename_i us s1 h2 h3
        cases h
        obtain ⟨k1, h4⟩ := k.give t v hv (fun _ k => .sp (.ret i k))
        have h5 : RelC (γ.turn (mvLab t fun _ k => .sp (.ret i k))) w (retL i) v (a.tmps.getD t undef) := RelT.c h2 h4
        obtain ⟨γ', cs, e1, e2, e3, e4, e5, e6, e7⟩ := aRes_sound h1 (i + 1) k1 h3
        have hf := mvLab_turn t (fun _ k => .sp (.ret i k))
        refine ⟨γ', a.tmps.getD t undef :: cs, (hf.ext γ w).trans e1, e2, e3, fun j v c h => e4 j v c (RelC.turn hf h), ?_, by simp [e6], fun j u c hu hc => ?_⟩
        · simp only [List.mapM_cons, Sem.run_bind, Sem.run_pure, Result.andThen_ok, e5, resVal]
        · cases j with
          | zero =>
            rw [List.getElem?_cons_zero] at hu hc
            cases hu
            cases hc
            exact ⟨e4 i _ _ h5, h2⟩
          | succ j =>
            have := e7 j u c (by simpa using hu) (by simpa using hc)
            rwa [show i + 1 + j = i + (j + 1) by omega] at this
      · cases h
    · cases h
  | .cell x t :: rs, l, hl, γ, s, vs, s', i, k, h => by
    simp only [cmpR] at hl
    split at hl
    · rename_i n ag l' h1 h2 h3
      split at hl
      · rename_i hn
        cases hl
        simp only [aRes] at h
        split at h
        · rename_i p hp
          split at h
          · rename_i ws hw
            split at h
            · rename_i v us s1 hm h4
              cases h
              have hx : cmpX (.tmp x) = some (.t x) := rfl
              obtain ⟨b, q, e1, vls, l1, l2, hc⟩ := at_rel k hx (show s.view.ev (.t x) = some p from hp) hw
              have hload : (loadCells ⟨b, q, none⟩ n).run P w = .ok vls.toArray w := by
                rw [← l1]
                refine run_loadCells_list (P := P) w _ vls fun j v hj => ?_
                rw [add_at]
                have : j < ws.length := by rw [l2, ← l1]; exact (List.getElem?_eq_some_iff.1 hj).1
                exact (hc j _ v (List.getElem?_eq_getElem this) hj).1
              have e1' : a.tmps.getD x undef = .pointer (some ⟨b, q, none⟩) := e1
              obtain ⟨c, hrun, hrel⟩ : ∃ c, (do loadVar t (← asAddr (a.tmps.getD x undef)) : Sem Value).run P w = .ok c w ∧ Rel γ w v.dg c := by
                rcases mkv_agg hm with ⟨rfl, rfl⟩ | ⟨rfl, rfl⟩
                · refine ⟨.agg vls.toArray, ?_, ?_⟩
                  · rw [e1']
                    simp [asAddr, loadVar, Sem.run_bind, run_isAgg h2, run_sz h1, hload]
                  · have hr : RelC γ w (fun j => place p j) (.agg ws) (.agg vls.toArray) := by
                      refine ⟨_, rfl, by simp [l1, l2], fun j c v hc' hv => (hc j c v hc' (by simpa using hv)).2.1, fun j c hc' => ?_⟩
                      have hj : j < vls.length := by rw [l1, ← l2]; exact (List.getElem?_eq_some_iff.1 hc').1
                      exact (hc j c _ hc' (List.getElem?_eq_getElem hj)).2.2 (by omega)
                    exact hr.dg
                · have h1' : n = 1 := by
                    rcases hn with h | h
                    · cases h
                    · exact h
                  subst h1'
                  match vls, l1 with
                  | [u], _ =>
                    obtain ⟨q1, q2, q3⟩ := hc 0 v u (by simp) (by simp)
                    have q3' := q3 (by omega)
                    have hdg : v.dg = v.dg1 := by cases v <;> first | rfl | (cases q3'; done) | (cases (show Rel γ w _ u from q2); done)
                    refine ⟨u, ?_, by rw [hdg]; exact q2.dg⟩
                    rw [e1']
                    simp at q1
                    simp [asAddr, loadVar, Sem.run_bind, run_isAgg h2, run_load, q1]
              obtain ⟨γ', cs, f1, f2, f3, f4, f5, f6, f7⟩ := aRes_sound h3 (i + 1) k h4
              refine ⟨γ', c :: cs, f1, f2, f3, f4, ?_, by simp [f6], fun j u c' hu hc' => ?_⟩
              · simp only [List.mapM_cons, Sem.run_bind, resVal] at hrun ⊢
                rw [hrun]
                simp only [Sem.run_pure, Result.andThen_ok, f5]
              · cases j with
                | zero =>
                  simp at hu hc'
                  subst hu hc'
                  exact ⟨f4 i _ _ hrel.cOf, (by generalize v.dg = z at hrel; cases hrel <;> rfl)⟩
                | succ j =>
                  have := f7 j u c' (by simpa using hu) (by simpa using hc')
                  rwa [show i + 1 + j = i + (j + 1) by omega] at this
            · cases h
          · cases h
        · cases h
      · cases hl
    · cases hl
end
end Go.Am

set_option linter.unusedSimpArgs false
set_option linter.unusedVariables false
open Go.RowKit
namespace Go.Am

/-! ### 22. Functions -/
inductive AMode where
  | ret
  | panic (v : AV)
def AMode.is (γ : Gh) (w : World) : AMode → FrameMode → Prop
  | .ret, .returning => True
  | .panic v, .panicking chain => ∃ c, chain = [{ v := c, recovered := false }] ∧ Rel γ w v c
  | _, _ => False
abbrev CallDR := FuncId → List AV → AMode → List HObj → AMode → List HObj → Prop
/-- A deferred call, which may take the panic away. -/
def CallDS (P : Program) : CallDR := fun f vs m h m' h1 =>
  Called P f ∧ ∀ γ w args u, WR γ w h → RelAll γ w vs args → m.is γ w u → CallsD P f args u w fun e u' w' => ∃ c, e = .returned c ∧ ∃ γ', Kept γ w γ' w' ∧ WR γ' w' h1 ∧ m'.is γ' w' (settle u')
def aLeave (D : CallDR) (res : List ARes) : List (AV × List AV) → AMode → AS → AEnd → List HObj → Prop
  | [], .ret, s, e, h' => match aRes s res with
    | some (vs, s') => e = .ret (one1 vs) ∧ h' = s.hp
    | none => False
  | [], .panic v, s, e, h' => e = .panic v ∧ h' = s.hp
  | (f, vs) :: ds, m, s, e, h' => match f with
    | .fn g caps => ∃ m' h1, D g (vs ++ caps) m s.hp m' h1 ∧ aLeave D res ds m' { s with hp := h1, df := ds } e h'
    | _ => False
def fin (D : CallDR) (res : List ARes) (e : AEnd) (h' : List HObj) : AR → AS → Prop
  | .norm, s => aLeave D res s.df .ret s e h'
  | .ret, s => aLeave D res s.df .ret s e h'
  | .panic v, s => aLeave D res s.df (.panic v) s e h'
  | .exit _, _ => False
/-- A function of the program, and what stands for it. -/
def FnOK (P : Program) (f : FuncId) (F : AFun) : Prop := ∃ fn ann ran liv c, P.funcs[f]? = some fn ∧ fn.body = some c ∧ fn.name ≠ "runtime.NumGoroutine" ∧ F.np ≤ fn.ntmps ∧ cmpC P ann ran liv fn.ntmps c = some F.body ∧ cmpR P fn.results.toList = some F.res
section
variable {P : Program} {γ γ' : Gh} {s : AS} {a : Act} {w w' : World}
theorem FnOK.called {f : FuncId} {F : AFun} (h : FnOK P f F) : Called P f := by
  obtain ⟨fn, _, _, _, c, h1, h2, h3, _⟩ := h
  exact ⟨fn, h1, by rw [h2]; rfl, h3⟩
theorem one1_rel {vs : List AV} {cs : List Value} (hl : cs.length = vs.length) (h : ∀ (j : Nat) (v : AV) (c : Value), vs[j]? = some v → cs[j]? = some c → RelC γ w (retL j) v c ∧ v.isV = true) :
    RelT γ w retL (one1 vs) (if h : cs.toArray.size = 1 then cs.toArray[0] else .tuple cs.toArray) ∧ ∀ b off, one1 vs ≠ .lptr b off := by
  match vs, cs, hl with
  | [], [], _ => exact ⟨⟨#[], rfl, rfl, fun i a v hv => by simp at hv⟩, fun b off e => by cases e⟩
  | [v], [c], _ =>
    obtain ⟨h1, h2⟩ := h 0 v c rfl rfl
    refine ⟨?_, fun b off e => ?_⟩
    · simp only [one1, List.size_toArray, List.length_singleton, dif_pos]
      exact h1.t h2
    · simp only [one1] at e
      subst e
      cases h2
  | v :: v2 :: vs, c :: c2 :: cs, hl =>
    refine ⟨?_, fun b off e => by cases e⟩
    simp only [one1, List.size_toArray, List.length_cons]
    rw [dif_neg (by omega)]
    exact ⟨_, rfl, by simpa using hl, fun i a v ha hv => (h i a v ha (by simpa using hv)).1⟩
theorem run_results {fn : Func} {cs : List Value} (h : (fn.results.toList.mapM (m := Sem) (resVal a.tmps)).run P w = .ok cs w) :
    (results fn a.tmps).run P w = .ok (if h : cs.toArray.size = 1 then cs.toArray[0] else .tuple cs.toArray) w := by
  have e : results fn a.tmps = (do let vs ← fn.results.mapM (resVal a.tmps); pure (if h : vs.size = 1 then vs[0] else .tuple vs)) := by
    unfold results
    congr 2
  rw [e, Array.mapM_eq_mapM_toList]
  simp only [Sem.run_bind, Sem.run_map]
  rw [h]
  simp only [Result.andThen_ok, Sem.run_pure]
theorem leave_sound {D : CallDR} (hD : ∀ f vs m h m' h1, D f vs m h m' h1 → CallDS P f vs m h m' h1) {fn : Func} {res : List ARes} (hres : cmpR P fn.results.toList = some res) {γ0 : Gh} {w0 : World} {e : AEnd} {h' : List HObj} :
    ∀ (ds : List (AV × List AV)) (ds' : List Deferred) (m : AMode) (u : FrameMode) (γ : Gh) (s : AS) (w : World), Ext γ0.enter w0 γ w → SR γ s { a with defers := ds' } w → s.df = ds → m.is γ w u → aLeave D res ds m s e h' →
      Leaves P fn a.tmps (fun en w' => ∃ γ', Kept γ0 w0 γ' w' ∧ WR γ' w' h' ∧ e.is γ' w' en) ds' u w
  | [], ds', m, u, γ, s, w, hE, k, hs, hm, h => by
    have h0 : ds' = [] := by
      have := k.df.1
      rw [hs] at this
      exact List.length_eq_zero_iff.1 this
    subst h0
    cases m with
    | ret =>
      cases u <;> first | exact hm.elim | skip
      simp only [aLeave] at h
      split at h
      · rename_i vs s' h1
        obtain ⟨rfl, rfl⟩ := h
        obtain ⟨γ', cs, f1, f2, f3, f4, f5, f6, f7⟩ := aRes_sound hres 0 k h1
        obtain ⟨r1, r2⟩ := one1_rel (γ := γ') (w := w) f6 (fun j v c hv hc => by have := f7 j v c hv hc; rwa [Nat.zero_add] at this)
        refine ⟨_, run_results (a := { a with defers := [] }) f5, γ0.leave γ', leave_kept (hE.trans f1), f3 ▸ leave_WR f2, leave_ret r2 r1⟩
      · exact h.elim
    | panic v =>
      cases u <;> first | exact hm.elim | skip
      obtain ⟨rfl, rfl⟩ := h
      obtain ⟨c, rfl, hr⟩ := hm
      exact ⟨γ0.leave γ, leave_kept hE, leave_WR k.toWR, c, rfl, hr.mono (leave_mono γ0 γ w)⟩
  | (f, vs) :: ds, ds', m, u, γ, s, w, hE, k, hs, hm, h => by
    have hlen := k.df.1
    rw [hs] at hlen
    match ds', hlen, k with
    | [], hlen, k => simp at hlen
    | d :: ds', hlen, k =>
      obtain ⟨g, arr1, caps, arr2, rfl, h2, h3, h4, h5, h6, h7⟩ := k.df.2 0 d f vs (by simp) (by rw [hs]; simp)
      obtain ⟨m', h1, hcall, hrest⟩ := h
      have hS := hD _ _ _ _ _ _ hcall
      refine ⟨fun e => ?_, .func g, arr1, g, arr2 ++ arr1, h2, ?_, ?_⟩
      · subst e
        cases m <;> exact hm.elim
      · rw [h2, h3]
        simp only [invoke]
        exact run_callFunc hS.1 _
      · have hall : RelAll γ w (vs ++ caps) (arr2 ++ arr1) := by
          refine ⟨by simp [h4, h5], fun i v c hv hc => ?_⟩
          rcases Nat.lt_or_ge i vs.length with q | q
          · rw [List.getElem?_append_left q] at hv
            rw [Array.getElem?_append_left (by omega)] at hc
            exact h7 i v c hv hc
          · rw [List.getElem?_append_right q] at hv
            rw [Array.getElem?_append_right (by omega), h5] at hc
            exact h6 _ v c hv hc
        intro c cs hu
        obtain ⟨en, u', w', fr, ⟨cv, rfl, γ', q1, q2, q3⟩, q4⟩ := hS.2 γ w _ u k.toWR hall hm c cs hu
        refine ⟨.returned cv, u', w', fr, ?_, q4⟩
        have k' := k.kept q1 q2
        refine leave_sound hD hres ds ds' m' (settle u') γ' { s with hp := h1, df := ds } w' (hE.trans q1.toExt) ?_ rfl q3 hrest
        refine { k'.toWR with tm := k'.tm, bx := k'.bx, dep := k'.dep, df := ⟨by simpa using hlen, fun i d f vs hd hf => ?_⟩ }
        exact k'.df.2 (i + 1) d f vs (by simpa using hd) (by rw [show ({ s with hp := h1 } : AS).df = s.df from rfl, hs]; simpa using hf)
theorem fun_sound {C : CallR} {D : CallDR} (hC : ∀ f vs h e h', C f vs h e h' → CallS P f vs h e h') (hD : ∀ f vs m h m' h1, D f vs m h m' h1 → CallDS P f vs m h m' h1) {f : FuncId} {F : AFun} (hF : FnOK P f F)
    {vs : List AV} {h : List HObj} {e : AEnd} {h' : List HObj} (hv : vs.length = F.np) (hb : awp C F.body (F.init vs h) (fin D F.res e h')) : CallS P f vs h e h' := by
  refine ⟨hF.called, fun γ w args k hr => ?_⟩
  obtain ⟨fn, ann, ran, liv, c, h1, h2, h3, h4, h5, h6⟩ := hF
  refine calls_of_wp_defers h1 h2 ?_
  have hsz : (args ++ Array.replicate (fn.ntmps - args.size) undef).size = fn.ntmps := by
    have := hr.1
    simp
    omega
  refine wp_mono (awp_sound hC c F.body h5 _ γ.enter _ _ w (Ext.refl _ _) (init_SR k hr) hsz hb) fun ex a' w' hp => ?_
  obtain ⟨r, s', γ', q1, q2, q3, q4, q5⟩ := hp
  cases r with
  | norm =>
    cases ex <;> first | exact q2.elim | skip
    exact leave_sound hD h6 s'.df a'.defers .ret .returning γ' s' w' q3 q4 rfl trivial q1
  | exit id => exact q1.elim
  | ret =>
    cases ex <;> first | exact q2.elim | skip
    exact leave_sound hD h6 s'.df a'.defers .ret .returning γ' s' w' q3 q4 rfl trivial q1
  | panic v =>
    cases ex <;> first | exact q2.elim | skip
    exact leave_sound hD h6 s'.df a'.defers (.panic v) _ γ' s' w' q3 q4 rfl q2 q1
end
end Go.Am

set_option linter.unusedSimpArgs false
set_option linter.unusedVariables false
open Go.RowKit
namespace Go.Am

/-! ### 23. Deferred functions, and 'recover' -/
def AMode.val : AMode → AV
  | .ret => .nilif
  | .panic v => v
def awpD (C : CallR) (body : AC) (m : AMode) (s : AS) (Q : AMode → AR → AS → Prop) : Prop :=
  match body with
  | .seq (.ops ({ d := some d, g := none, op := .recov } :: l)) b => awpOps C l { s with tm := put s.tm d m.val } fun r s1 => match r with
    | .norm => awp C b s1 (Q .ret)
    | r => Q .ret r s1
  | body => awp C body s (Q m)
def finD (res : List ARes) (m' : AMode) (h1 : List HObj) (m : AMode) : AR → AS → Prop
  | .norm, s => s.df = [] ∧ (aRes s res).isSome = true ∧ m = m' ∧ s.hp = h1
  | .ret, s => s.df = [] ∧ (aRes s res).isSome = true ∧ m = m' ∧ s.hp = h1
  | _, _ => False
section
variable {P : Program} {γ γ' : Gh} {s : AS} {a : Act} {w w' : World}
theorem opsS_sound {C : CallR} (hC : ∀ f vs h e h', C f vs h e h' → CallS P f vs h e h') {ann : Ann} {nt : Nat} {ops : Array Oper} {Q : AR → AS → Prop} {γ0 : Gh} {w0 : World} {cs : List Frame} :
    ∀ (is : List Nat) (aos : List AOper), Lines P ann nt ops is aos → ∀ (γ : Gh) (s : AS) (a : Act) (w : World), Ext γ0 w0 γ w → SR γ s a w → a.tmps.size = nt → awpOps C aos s Q → wpOpsS P ops (fun e a' cs' w' => cs' = cs ∧ Post γ0 w0 nt Q e a' w') is a cs w
  | [], [], _, γ, s, a, w, hE, k, hn, h => ⟨rfl, .norm, s, γ, h, trivial, hE, k, hn⟩
  | i :: is, ao :: aos, hL, γ, s, a, w, hE, k, hn, h => by
    obtain ⟨⟨o, ho, hc⟩, hL'⟩ := hL
    have := op_sound hC (K := fun a' w' => wpOpsS P ops (fun e a' cs' w' => cs' = cs ∧ Post γ0 w0 nt Q e a' w') is a' cs w') hc hE k hn h fun γ' s' a' w' h1 h2 h3 h4 => opsS_sound hC is aos hL' γ' s' a' w' h1 h2 h3 h4
    simp only [wpOpsS, ho]
    split
    · rename_i hw
      rw [if_pos hw] at this
      have key := wp_monoQ (Q' := fun e a' w' => True ∧ Post γ0 w0 nt Q e a' w') (fun c a w h => ⟨trivial, h⟩) (fun ⟨a, w, h⟩ => ⟨a, w, trivial, h⟩) this
      unfold Oper.wp at key
      split
      · rename_i w' hr
        rw [hr] at key
        exact key.elim
      · exact key
    · rename_i hw
      rw [if_neg hw] at this
      exact this
  | [], _ :: _, h, _, _, _, _, _, _, _, _ => h.elim
  | _ :: _, [], h, _, _, _, _, _, _, _, _ => h.elim
theorem upon_mono {o : Oper} {K K' : Act → World → Prop} {Q Q' : Exit → Act → World → Prop} (hK : ∀ a w, K a w → K' a w) (hQ : ∀ e a w, Q e a w → Q' e a w) {r : Result Next} (hh : o.upon P a K Q r) : o.upon P a K' Q' r := by
  cases r with
  | ok n w' =>
    cases n <;> simp only [Oper.upon] at hh ⊢ <;>
      first
        | exact hK _ _ hh
        | exact hh
        | exact Calls.mono hh (fun e w'' he => by cases e <;> first | exact hK _ _ he | exact hQ _ _ _ he | exact he.imp fun a h => h.imp fun w h => hQ _ _ _ h)
        | exact Rows.mono hh (fun _ _ he => hK _ _ he)
  | halt x w' => cases x <;> simp only [Oper.upon] at hh ⊢ <;> first | exact hh | exact hQ _ _ _ hh
theorem wpOpsS_mono {ops : Array Oper} {Q Q' : Exit → Act → List Frame → World → Prop} (h : ∀ e a cs w, Q e a cs w → Q' e a cs w) : ∀ {l : List Nat} {a : Act} {cs : List Frame} {w : World}, wpOpsS P ops Q l a cs w → wpOpsS P ops Q' l a cs w
  | [], a, cs, w, hh => h _ _ _ _ hh
  | i :: l, a, cs, w, hh => by
    unfold wpOpsS at hh ⊢
    split
    · rename_i ho
      rw [ho] at hh
      exact wpOpsS_mono h hh
    · rename_i o ho
      rw [ho] at hh
      simp only at hh
      split
      · rename_i hw
        rw [if_pos hw] at hh
        split
        · rename_i w' hr
          rw [hr] at hh
          simp only at hh
          split
          · rename_i v cs' hrec
            rw [hrec] at hh
            exact wpOpsS_mono h hh
          · rename_i hrec
            rw [hrec] at hh
            exact wpOpsS_mono h hh
        · rename_i hne
          split at hh
          · rename_i w' hr
            exact absurd hr (hne w')
          · exact upon_mono (fun a w q => wpOpsS_mono h q) (fun e a w q => h _ _ _ _ q) hh
      · rename_i hw
        rw [if_neg hw] at hh
        exact wpOpsS_mono h hh
theorem AMode.mono (m : Mono γ w γ' w') {x : AMode} {u : FrameMode} (h : x.is γ w u) : x.is γ' w' (settle u) := by
  cases x with
  | ret => cases u <;> first | exact h.elim | exact trivial
  | panic v =>
    cases u <;> first | exact h.elim | skip
    obtain ⟨c, rfl, hr⟩ := h
    exact ⟨c, rfl, hr.mono m⟩
theorem funD_sound {C : CallR} (hC : ∀ f vs h e h', C f vs h e h' → CallS P f vs h e h') {f : FuncId} {F : AFun} (hF : FnOK P f F)
    {vs : List AV} {h : List HObj} {m m' : AMode} {h1 : List HObj} (hv : vs.length = F.np) (hb : awpD C F.body m (F.init vs h) (finD F.res m' h1)) : CallDS P f vs m h m' h1 := by
  refine ⟨hF.called, fun γ w args u k hr hm => ?_⟩
  obtain ⟨fn, ann, ran, liv, c, hf1, hf2, hf3, hf4, hf5, hf6⟩ := hF
  have hsz : (args ++ Array.replicate (fn.ntmps - args.size) undef).size = fn.ntmps := by
    have := hr.1
    simp
    omega
  refine callsD_of_wpS hf1 hf2 fun c₀ cs hu => ?_
  have k0 := init_SR (F := F) (n := fn.ntmps - args.size) k hr
  -- the end of it
  have hfin : ∀ (mm : AMode) (u' : FrameMode) (r : AR) (s' : AS) (γ' : Gh) (ex : Exit) (a' : Act) (w' : World), (∀ γ'' w'', Mono γ w γ'' w'' → mm.is γ'' w'' (settle u')) → finD F.res m' h1 mm r s' → r.is γ' w' ex → Ext γ.enter w γ' w' → SR γ' s' a' w' →
      bodyPostS P fn c₀ cs (fun e u' w' => ∃ c, e = .returned c ∧ ∃ γ', Kept γ w γ' w' ∧ WR γ' w' h1 ∧ m'.is γ' w' (settle u')) ex a' ({ c₀ with mode := u' } :: cs) w' := by
    intro mm u' r s' γ' ex a' w' hmm hq q2 q3 q4
    have key : s'.df = [] ∧ (aRes s' F.res).isSome = true ∧ mm = m' ∧ s'.hp = h1 → a'.defers = [] ∧ ∃ u2, { c₀ with mode := u' } :: cs = { c₀ with mode := u2 } :: cs ∧ ∃ v, (results fn a'.tmps).run P w' = .ok v w' ∧ ∃ c, Ending.returned v = .returned c ∧ ∃ γ2, Kept γ w γ2 w' ∧ WR γ2 w' h1 ∧ m'.is γ2 w' (settle u2) := by
      rintro ⟨h2, h3, rfl, rfl⟩
      have hd : a'.defers = [] := by
        have := q4.df.1
        rw [h2] at this
        exact List.length_eq_zero_iff.1 this
      cases hres : aRes s' F.res with
      | none => rw [hres] at h3; cases h3
      | some p =>
        obtain ⟨vs', s2⟩ := p
        obtain ⟨γ2, cs2, f1, f2, f3, f4, f5, f6, f7⟩ := aRes_sound hf6 0 q4 hres
        have hkept := leave_kept (q3.trans f1)
        exact ⟨hd, u', rfl, _, run_results f5, _, rfl, γ.leave γ2, hkept, f3 ▸ leave_WR f2, hmm _ _ hkept.toMono⟩
    cases r with
    | norm => cases ex <;> first | exact q2.elim | exact key hq
    | ret => cases ex <;> first | exact q2.elim | exact key hq
    | exit id => exact hq.elim
    | panic v => exact hq.elim
  have hc₀ : ({ c₀ with mode := u } : Frame) = c₀ := by subst hu; rfl
  have hplain : awp C F.body (F.init vs h) (finD F.res m' h1 m) → c.wpS P (bodyPostS P fn c₀ cs (fun e u' w' => ∃ c, e = .returned c ∧ ∃ γ', Kept γ w γ' w' ∧ WR γ' w' h1 ∧ m'.is γ' w' (settle u'))) { tmps := args ++ Array.replicate (fn.ntmps - args.size) undef, defers := [] } (c₀ :: cs) w := fun hb => by
    refine wpS_of_wp (wp_mono (awp_sound hC c F.body hf5 _ γ.enter _ _ w (Ext.refl _ _) k0 hsz hb) fun ex a' w' hp => ?_)
    obtain ⟨r, s', γ', q1, q2, q3, q4, q5⟩ := hp
    have := hfin m u r s' γ' ex a' w' (fun γ'' w'' hm2 => AMode.mono hm2 hm) q1 q2 q3 q4
    rwa [hc₀] at this
  unfold awpD at hb
  split at hb
  · rename_i d l b hbody
    -- the code itself
    rw [hbody] at hf5
    obtain ⟨x, y, rfl, hx, hy⟩ : ∃ x y, c = .seq x y ∧ cmpC P ann ran liv fn.ntmps x = some (.ops ({ d := some d, g := none, op := .recov } :: l)) ∧ cmpC P ann ran liv fn.ntmps y = some b := by
      cases c <;> (try simp only [cmpC] at hf5) <;> (try (cases hf5; done))
      case seq x y =>
        split at hf5
        · rename_i ax ay h2 h3
          cases hf5
          exact ⟨x, y, rfl, h2, h3⟩
        · cases hf5
      case region id ops draw =>
        cases draw <;> (try simp only [cmpC] at hf5)
        · simp only [Option.map_eq_some_iff] at hf5
          obtain ⟨_, _, e⟩ := hf5
          cases hl : liv id <;> (rw [hl] at e; cases e)
        · split at hf5
          · split at hf5
            · cases hl : liv id <;> (rw [hl] at hf5; cases hf5)
            · cases hf5
          · cases hf5
      case cond => split at hf5 <;> cases hf5
      case block => simp at hf5
      case loop => simp at hf5
    obtain ⟨id, ops, rfl, hx2⟩ : ∃ id ops, x = .region id ops false ∧ cmpL P ann fn.ntmps ops (List.range ops.size) = some ({ d := some d, g := none, op := .recov } :: l) := by
      cases x <;> (try simp only [cmpC] at hx) <;> (try (cases hx; done))
      case seq => split at hx <;> cases hx
      case region id ops draw =>
        cases draw <;> (try simp only [cmpC] at hx)
        · simp only [Option.map_eq_some_iff] at hx
          obtain ⟨_, h2, e⟩ := hx
          cases hl : liv id <;> (rw [hl] at e; cases e)
          exact ⟨_, _, rfl, h2⟩
        · split at hx
          · split at hx
            · cases hl : liv id <;> (rw [hl] at hx; cases hx)
            · cases hx
          · cases hx
      case cond => split at hx <;> cases hx
      case block => simp at hx
      case loop => simp at hx
    have hL := cmpL_lines hx2
    refine wpS_seq (wpS_region ?_)
    cases hrange : List.range ops.size with
    | nil => rw [hrange] at hL; exact hL.elim
    | cons i is =>
      rw [hrange] at hL
      obtain ⟨⟨o, ho, hco⟩, hL'⟩ := hL
      obtain ⟨g1, g2, g3, g4⟩ := cmpO_spec hco
      have hguard : o.guard = none := by
        cases hg : o.guard with
        | none => rfl
        | some p =>
          obtain ⟨j, want⟩ := p
          rw [hg] at g2
          simp only [cmpG] at g2
          split at g2 <;> cases g2
      have hop : ∃ ts, o.op = .call { callee := .builtin .recover, args := #[], argTypes := ts } := by
        unfold cmpOp at g1
        repeat' split at g1
        all_goals first | (cases g1; done) | (simp only [Option.map_eq_some_iff] at g1; obtain ⟨q, hq, g1⟩ := g1; cases g1; done) | skip
        rename_i hargs _
        rename_i _ args ts hop _ _ _
        have e1 : args = #[] := Array.toList_inj.1 hargs
        subst e1
        exact ⟨_, by assumption⟩
      obtain ⟨ts, hop⟩ := hop
      have hrun : (execOp ({ tmps := args ++ Array.replicate (fn.ntmps - args.size) undef, defers := [] } : Act).eval o).run P w = .ok .recover w := by
        simp [execOp, hop, resolve, invoke, builtin, Sem.run_bind]
      simp only [wpOpsS, ho]
      have hwant : Region.wanted o (yielded ops (args ++ Array.replicate (fn.ntmps - args.size) undef)) = true := by
        simp [Region.wanted, hguard]
      rw [if_pos hwant, hrun]
      simp only
      rw [g3]
      have hdlt : d < (args ++ Array.replicate (fn.ntmps - args.size) undef).size := by rw [hsz]; exact g4 d g3
      -- both ways
      have hgo : ∀ (cv : Value) (u' : FrameMode), Rel γ.enter w m.val cv → (∀ γ'' w'', Mono γ w γ'' w'' → AMode.ret.is γ'' w'' (settle u')) →
          wpOpsS P ops (Exit.thenS (y.wpS P (bodyPostS P fn c₀ cs (fun e u' w' => ∃ c, e = .returned c ∧ ∃ γ', Kept γ w γ' w' ∧ WR γ' w' h1 ∧ m'.is γ' w' (settle u')))) (bodyPostS P fn c₀ cs (fun e u' w' => ∃ c, e = .returned c ∧ ∃ γ', Kept γ w γ' w' ∧ WR γ' w' h1 ∧ m'.is γ' w' (settle u')))) is
            (Act.put { tmps := args ++ Array.replicate (fn.ntmps - args.size) undef, defers := [] } (some d) cv) ({ c₀ with mode := u' } :: cs) w := by
        intro cv u' hrel hmm
        have k1 := k0.setd (some d) m.val cv (fun t ht => by cases ht; exact hdlt) hrel.t (okd_val hrel)
        have h2 := opsS_sound hC (cs := { c₀ with mode := u' } :: cs) is l hL' γ.enter _ _ w (Ext.refl _ _) k1 (by rw [size_put]; exact hsz) hb
        refine wpOpsS_mono (fun e a' cs' w' hp => ?_) h2
        obtain ⟨rfl, r, s', γ', q1, q2, q3, q4, q5⟩ := hp
        cases r with
        | norm =>
          cases e <;> first | exact q2.elim | skip
          simp only at q1
          refine wpS_of_wp (wp_mono (awp_sound hC y b hy _ γ' s' a' w' q3 q4 q5 q1) fun ex a2 w2 hp => ?_)
          obtain ⟨r2, s2, γ2, p1, p2, p3, p4, p5⟩ := hp
          exact hfin .ret u' r2 s2 γ2 ex a2 w2 hmm p1 p2 p3 p4
        | exit id => exact q1.elim
        | ret =>
          cases e <;> first | exact q2.elim | skip
          exact hfin .ret u' .ret s' γ' .ret a' w' hmm q1 trivial q3 q4
        | panic v => exact q1.elim
      cases m with
      | ret =>
        cases u <;> first | exact hm.elim | skip
        have : recoverD (c₀ :: cs) = none := by simp [recoverD, hu]
        rw [this]
        have := hgo .nilIface .returning .nilif (fun _ _ _ => trivial)
        rwa [hc₀] at this
      | panic v =>
        cases u <;> first | exact hm.elim | skip
        obtain ⟨cv, rfl, hrel⟩ := hm
        have : recoverD (c₀ :: cs) = some (cv, { c₀ with mode := .panicking [{ v := cv, recovered := true }] } :: cs) := by simp [recoverD, hu]
        rw [this]
        exact hgo cv _ (hrel.mono (enter_ext γ w)) (fun _ _ _ => trivial)
  · rename_i hne
    exact hplain hb
end
end Go.Am
