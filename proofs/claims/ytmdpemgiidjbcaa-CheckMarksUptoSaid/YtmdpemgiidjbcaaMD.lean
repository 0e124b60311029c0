import Derived.Test.YtmdpemgiidjbcaaMC
import Derived.Laws.Strings
set_option linter.unusedSimpArgs false
set_option linter.unusedVariables false
set_option linter.unusedSimpArgs false
set_option linter.unusedVariables false
set_option linter.unusedSectionVars false
open Go.RowKit
namespace Go.Am

/-! ### 27. What is handed on is reckoned first -/
section
variable {β : Type}
@[inline] def fNat (n : Nat) (κ : Nat → β) : β := Nat.casesOn n (κ 0) fun m => κ (Nat.succ m)
def fInt (n : Int) (κ : Int → β) : β := Int.casesOn n (fun m => fNat m fun m => κ (.ofNat m)) (fun m => fNat m fun m => κ (.negSucc m))
def fBool (b : Bool) (κ : Bool → β) : β := Bool.casesOn b (κ false) (κ true)
def fL {α : Type} (fx : α → (α → β) → β) : List α → (List α → β) → β
  | [], κ => κ []
  | a :: l, κ => fx a fun a => fL fx l fun l => κ (a :: l)
def fId {α : Type} (a : α) (κ : α → β) : β := κ a
def fU8 (u : UInt8) (κ : UInt8 → β) : β := match u with
  | ⟨⟨⟨n, h⟩⟩⟩ => Nat.casesOn (motive := fun n => n < 2 ^ 8 → β) n (fun h => κ ⟨⟨⟨0, h⟩⟩⟩) (fun m h => κ ⟨⟨⟨Nat.succ m, h⟩⟩⟩) h
def fBytes (b : ByteArray) (κ : ByteArray → β) : β := match b with
  | ⟨⟨l⟩⟩ => fL fU8 l fun l => κ ⟨⟨l⟩⟩
/-- 'n': how deep. -/
def fv : Nat → AV → (AV → β) → β
  | 0, v, κ => match v with
    | .int k n => fInt n fun n => κ (.int k n)
    | .bool b => fBool b fun b => κ (.bool b)
    | .str s => κ (.str s)
    | .nilptr => κ .nilptr
    | .hptr i p => fNat i fun i => fNat p fun p => κ (.hptr i p)
    | .lptr i p => fNat i fun i => fNat p fun p => κ (.lptr i p)
    | .fptr e o => fNat o fun o => κ (.fptr e o)
    | .sl z l => κ (.sl z l)
    | .xsl z l => κ (.xsl z l)
    | .hsl a b c d => fNat a fun a => fNat b fun b => fNat c fun c => fNat d fun d => κ (.hsl a b c d)
    | .agg l => κ (.agg l)
    | .tup l => κ (.tup l)
    | .iface t v => κ (.iface t v)
    | .nilif => κ .nilif
    | .fn f l => κ (.fn f l)
    | .nilfn => κ .nilfn
    | .nsl => κ .nsl
    | .map i => fNat i fun i => κ (.map i)
    | .undef => κ .undef
  | n + 1, v, κ => match v with
    | .int k n => fInt n fun n => κ (.int k n)
    | .bool b => fBool b fun b => κ (.bool b)
    | .str s => κ (.str s)
    | .nilptr => κ .nilptr
    | .hptr i p => fNat i fun i => fNat p fun p => κ (.hptr i p)
    | .lptr i p => fNat i fun i => fNat p fun p => κ (.lptr i p)
    | .fptr e o => fv n e fun e => fNat o fun o => κ (.fptr e o)
    | .sl z l => κ (.sl z l)
    | .xsl z l => κ (.xsl z l)
    | .hsl a b c d => fNat a fun a => fNat b fun b => fNat c fun c => fNat d fun d => κ (.hsl a b c d)
    | .agg l => fL (fv n) l fun l => κ (.agg l)
    | .tup l => fL (fv n) l fun l => κ (.tup l)
    | .iface t v => fv n v fun v => κ (.iface t v)
    | .nilif => κ .nilif
    | .fn f l => fL (fv n) l fun l => κ (.fn f l)
    | .nilfn => κ .nilfn
    | .nsl => κ .nsl
    | .map i => fNat i fun i => κ (.map i)
    | .undef => κ .undef
/-- A row of values made anew. -/
def fRow (v : AV) (κ : AV → β) : β := match v with
  | .sl z l => fL (fv 2) l fun l => κ (.sl z l)
  | .xsl z l => fL (fv 2) l fun l => κ (.xsl z l)
  | .str b => fBytes b fun b => κ (.str b)
  | v => fv 2 v κ
/-- A row whose parts are reckoned already. -/
def fSpine (v : AV) (κ : AV → β) : β := match v with
  | .sl z l => fL fId l fun l => κ (.sl z l)
  | .xsl z l => fL fId l fun l => κ (.xsl z l)
  | .str b => fBytes b fun b => κ (.str b)
  | v => fv 2 v κ
def fTw : List (Nat × AV) → (List (Nat × AV) → β) → β := fL fun p κ => match p with
  | (t, v) => fv 1 v fun v => κ (t, v)
def fBw (b : Option (Nat × List AV)) (κ : Option (Nat × List AV) → β) : β := match b with
  | none => κ none
  | some (b, cs) => fNat b fun b => fL (fv 0) cs fun cs => κ (some (b, cs))
def fObj (o : HObj) (κ : HObj → β) : β := match o with
  | .obj cs => fL (fv 0) cs fun cs => κ (.obj cs)
  | .dead => κ .dead
  | .map es => fL (fun p κ => match p with | (k, v) => fv 0 k fun k => fv 1 v fun v => κ (k, v)) es fun es => κ (.map es)
def fHw (h : Option (List HObj)) (κ : Option (List HObj) → β) : β := match h with
  | none => κ none
  | some h => fL fObj h fun h => κ (some h)
def fDw (d : Option (AV × List AV)) (κ : Option (AV × List AV) → β) : β := match d with
  | none => κ none
  | some (f, vs) => fv 1 f fun f => fL (fv 1) vs fun vs => κ (some (f, vs))
def AOp.makes : AOp → Bool
  | .bslice .. => true
  | .b2s _ => true
  | .mkarr .. => true
  | _ => false
def AOp.rows : AOp → Bool
  | .slcS .. => true
  | .slc .. => true
  | .bin .str .add _ _ => true
  | .app .. => true
  | _ => false
def AOp.bare : AOp → Bool
  | .call .. => true
  | .callv .. => true
  | _ => false
def fVal (o : AOp) (v : AV) (κ : AV → β) : β := match o.makes with
  | true => fRow v κ
  | false => match o.rows with
    | true => fSpine v κ
    | false => fv 2 v κ
def fEff (o : AOp) (e : Eff) (κ : Eff → β) : β := match e with
  | ⟨v, tw, bw, hw, dw⟩ => fVal o v fun v => fTw tw fun tw => fBw bw fun bw => (match o.bare with | true => fId hw | false => fHw hw) fun hw => fDw dw fun dw => κ ⟨v, tw, bw, hw, dw⟩
def fTm : List (Nat × AV) → (List (Nat × AV) → β) → β := fL fun p κ => match p with
  | (t, v) => κ (t, v)
def fBx : List (Nat × List AV) → (List (Nat × List AV) → β) → β := fL fun p κ => match p with
  | (b, cs) => κ (b, cs)
def fAS (s : AS) (κ : AS → β) : β := match s with
  | ⟨dep, tm, bx, hp, df⟩ => fTm tm fun tm => fBx bx fun bx => κ ⟨dep, tm, bx, hp, df⟩
def fApply (s : AS) (d : Option Nat) (e : Eff) (κ : AS → β) : β := match s, e with
  | ⟨dep, tm, bx, hp, df⟩, ⟨v, tw, bw, hw, dw⟩ => fTm (putd (puts tm tw) d v) fun tm =>
    (match bw with | none => fId bx | some (b, cs) => fBx (put bx b cs)) fun bx =>
    (match hw with | none => fId hp | some h => fId h) fun hp =>
    (match dw with | none => fId df | some x => fId (x :: df)) fun df => κ ⟨dep, tm, bx, hp, df⟩
theorem fNat_eq (n : Nat) (κ : Nat → β) : fNat n κ = κ n := by cases n <;> rfl
theorem fInt_eq (n : Int) (κ : Int → β) : fInt n κ = κ n := by cases n <;> simp [fInt, fNat_eq]
theorem fBool_eq (b : Bool) (κ : Bool → β) : fBool b κ = κ b := by cases b <;> rfl
theorem fL_eq {α : Type} {fx : α → (α → β) → β} (h : ∀ a κ, fx a κ = κ a) : ∀ (l : List α) (κ : List α → β), fL fx l κ = κ l
  | [], κ => rfl
  | a :: l, κ => by rw [fL, h, fL_eq h l]
theorem fId_eq {α : Type} (a : α) (κ : α → β) : fId a κ = κ a := rfl
theorem fU8_eq (u : UInt8) (κ : UInt8 → β) : fU8 u κ = κ u := by
  obtain ⟨⟨n, h⟩⟩ := u
  cases n <;> rfl
theorem fBytes_eq (b : ByteArray) (κ : ByteArray → β) : fBytes b κ = κ b := by
  obtain ⟨⟨l⟩⟩ := b
  exact fL_eq fU8_eq l _
theorem fv_eq : ∀ (n : Nat) (v : AV) (κ : AV → β), fv n v κ = κ v
  | 0, v, κ => by cases v <;> simp only [fv, fInt_eq, fBool_eq, fNat_eq]
  | n + 1, v, κ => by cases v <;> simp only [fv, fInt_eq, fBool_eq, fNat_eq, fL_eq (fv_eq n), fv_eq n]
theorem fRow_eq (v : AV) (κ : AV → β) : fRow v κ = κ v := by cases v <;> simp only [fRow, fv_eq, fL_eq (fv_eq 2), fBytes_eq]
theorem fSpine_eq (v : AV) (κ : AV → β) : fSpine v κ = κ v := by cases v <;> simp only [fSpine, fv_eq, fL_eq (fx := fId) fId_eq, fBytes_eq]
theorem fVal_eq (o : AOp) (v : AV) (κ : AV → β) : fVal o v κ = κ v := by
  unfold fVal
  split
  · exact fRow_eq v κ
  · split
    · exact fSpine_eq v κ
    · exact fv_eq 2 v κ
theorem fTw_eq (l : List (Nat × AV)) (κ : List (Nat × AV) → β) : fTw l κ = κ l := fL_eq (fun p κ => by obtain ⟨t, v⟩ := p; exact fv_eq 1 v _) l κ
theorem fBw_eq (b : Option (Nat × List AV)) (κ : Option (Nat × List AV) → β) : fBw b κ = κ b := by
  cases b with
  | none => rfl
  | some p => obtain ⟨b, cs⟩ := p; simp only [fBw, fNat_eq, fL_eq (fv_eq 0)]
theorem fObj_eq (o : HObj) (κ : HObj → β) : fObj o κ = κ o := by
  cases o with
  | obj cs => simp only [fObj, fL_eq (fv_eq 0)]
  | dead => rfl
  | map es => exact fL_eq (fun p κ => by obtain ⟨t, v⟩ := p; simp only [fv_eq]) es _
theorem fHw_eq (b : Option (List HObj)) (κ : Option (List HObj) → β) : fHw b κ = κ b := by
  cases b with
  | none => rfl
  | some p => simp only [fHw, fL_eq fObj_eq]
theorem fDw_eq (b : Option (AV × List AV)) (κ : Option (AV × List AV) → β) : fDw b κ = κ b := by
  cases b with
  | none => rfl
  | some p => obtain ⟨b, cs⟩ := p; simp only [fDw, fv_eq, fL_eq (fv_eq 1)]
theorem fEff_eq (o : AOp) (e : Eff) (κ : Eff → β) : fEff o e κ = κ e := by
  obtain ⟨v, tw, bw, hw, dw⟩ := e
  simp only [fEff, fVal_eq, fTw_eq, fBw_eq, fDw_eq]
  cases o.bare <;> simp only [fId_eq, fHw_eq]
theorem fTm_eq (l : List (Nat × AV)) (κ : List (Nat × AV) → β) : fTm l κ = κ l := fL_eq (fun p κ => by obtain ⟨t, v⟩ := p; rfl) l κ
theorem fBx_eq (l : List (Nat × List AV)) (κ : List (Nat × List AV) → β) : fBx l κ = κ l := fL_eq (fun p κ => by obtain ⟨t, v⟩ := p; rfl) l κ
theorem fAS_eq (s : AS) (κ : AS → β) : fAS s κ = κ s := by
  obtain ⟨dep, tm, bx, hp, df⟩ := s
  simp only [fAS, fTm_eq, fBx_eq]
theorem fApply_eq (s : AS) (d : Option Nat) (e : Eff) (κ : AS → β) : fApply s d e κ = κ (s.apply d e) := by
  obtain ⟨dep, tm, bx, hp, df⟩ := s
  obtain ⟨v, tw, bw, hw, dw⟩ := e
  simp only [fApply, fTm_eq, AS.apply]
  cases bw <;> cases hw <;> cases dw <;> simp only [fId_eq, fBx_eq]
end

/-! Common operations, the shorter way -/
theorem bytesEq_iff : ∀ {l m : List UInt8}, bytesEq l m = (l == m)
  | [], [] => rfl
  | a :: l, b :: m => by
    simp only [bytesEq, List.cons_beq_cons]
    cases h : Nat.beq a.toNat b.toNat with
    | true =>
      have := UInt8.toNat_inj.1 (Nat.eq_of_beq_eq_true h)
      subst this
      simp [bytesEq_iff (l := l) (m := m)]
    | false =>
      have : ¬ a = b := fun e => by subst e; simp [Nat.beq_refl] at h
      simp [this]
  | [], _ :: _ => rfl
  | _ :: _, [] => rfl
def abinK (ty : BT) (op : BinOp) (x y : AV) : Option AV := match x, y with
  | .str a, .str b => match op with
    | .eql => some (.bool (bytesEq a.data.toList b.data.toList))
    | .neq => some (.bool (!bytesEq a.data.toList b.data.toList))
    | op => abin ty op (.str a) (.str b)
  | x, y => abin ty op x y
theorem abinK_eq (ty : BT) (op : BinOp) (x y : AV) : abinK ty op x y = abin ty op x y := by
  unfold abinK
  split
  · split
    · simp only [abin, bytesEq_iff, ByteArray.toList_eq]
    · simp only [abin, bytesEq_iff, ByteArray.toList_eq]
    · rfl
  · rfl

/-! ### 28. A machine for the kernel: small steps, each by its own name -/
section
variable {β : Type}
def oe {α : Type} (o : Option α) (κ : α → β) (q : β) : β := match o with
  | some a => κ a
  | none => q
theorem oe_some {α : Type} (a : α) (κ : α → β) (q : β) : oe (some a) κ q = κ a := rfl
theorem oe_none {α : Type} (κ : α → β) (q : β) : oe (none : Option α) κ q = q := rfl
noncomputable def klook {α : Type} (l : List (Nat × α)) (j : Nat) (κ : α → β) (q : β) : β :=
  List.rec (motive := fun _ => β) q (fun p _ ih => Bool.rec (motive := fun _ => β) ih (κ p.2) (Nat.beq p.1 j)) l
theorem klook_eq {α : Type} (l : List (Nat × α)) (j : Nat) (κ : α → β) (q : β) : klook l j κ q = oe (look l j) κ q := by
  induction l with
  | nil => rfl
  | cons p l ih =>
    obtain ⟨k, v⟩ := p
    show @Bool.rec (fun _ => β) (klook l j κ q) (κ v) (Nat.beq k j) = _
    simp only [look]
    cases Nat.beq k j
    · exact ih
    · rfl
noncomputable def kput {α : Type} (l : List (Nat × α)) (d : Nat) (v : α) (κ : List (Nat × α) → β) : β :=
  List.rec (motive := fun _ => (List (Nat × α) → β) → β) (fun κ => κ [(d, v)]) (fun p t ih κ => Bool.rec (motive := fun _ => β) (ih fun l => κ (p :: l)) (κ ((p.1, v) :: t)) (Nat.beq p.1 d)) l κ
theorem kput_eq {α : Type} (d : Nat) (v : α) : ∀ (l : List (Nat × α)) (κ : List (Nat × α) → β), kput l d v κ = κ (put l d v)
  | [], κ => rfl
  | (k, u) :: l, κ => by
    show @Bool.rec (fun _ => β) (kput l d v fun l => κ ((k, u) :: l)) (κ ((k, v) :: l)) (Nat.beq k d) = _
    simp only [put]
    cases Nat.beq k d
    · exact kput_eq d v l _
    · rfl
noncomputable def kget {α : Type} (l : List α) (i : Nat) (κ : α → β) (q : β) : β :=
  List.rec (motive := fun _ => Nat → β) (fun _ => q) (fun a _ ih i => Nat.casesOn (motive := fun _ => β) i (κ a) ih) l i
theorem kget_eq {α : Type} (κ : α → β) (q : β) : ∀ (l : List α) (i : Nat), kget l i κ q = oe l[i]? κ q
  | [], i => rfl
  | a :: l, 0 => rfl
  | a :: l, i + 1 => by
    show kget l i κ q = _
    rw [kget_eq κ q l i]
    simp
noncomputable def klenL {α : Type} (l : List α) : Nat := List.rec (motive := fun _ => Nat) 0 (fun _ _ ih => Nat.succ ih) l
theorem klenL_eq {α : Type} : ∀ (l : List α), klenL l = l.length
  | [] => rfl
  | a :: l => by
    show Nat.succ (klenL l) = _
    rw [klenL_eq l]
    rfl
noncomputable def kdrop {α : Type} (n : Nat) (l : List α) (κ : List α → β) (q : β) : β :=
  Nat.rec (motive := fun _ => List α → β) κ (fun _ ih l => List.casesOn (motive := fun _ => β) l q (fun _ t => ih t)) n l
noncomputable def ktake {α : Type} (n : Nat) (l : List α) (κ : List α → β) (q : β) : β :=
  Nat.rec (motive := fun _ => List α → (List α → β) → β) (fun _ κ => κ []) (fun _ ih l κ => List.casesOn (motive := fun _ => β) l q (fun a t => ih t fun l => κ (a :: l))) n l κ
theorem kdrop_eq {α : Type} (κ : List α → β) (q : β) : ∀ (n : Nat) (l : List α), kdrop n l κ q = if n ≤ l.length then κ (l.drop n) else q
  | 0, l => by simp; rfl
  | n + 1, [] => by simp; rfl
  | n + 1, a :: l => by
    show kdrop n l κ q = _
    rw [kdrop_eq κ q n l]
    simp
theorem ktake_eq {α : Type} (q : β) : ∀ (n : Nat) (l : List α) (κ : List α → β), ktake n l κ q = if n ≤ l.length then κ (l.take n) else q
  | 0, l, κ => by simp; rfl
  | n + 1, [], κ => by simp; rfl
  | n + 1, a :: l, κ => by
    show (ktake n l (fun l => κ (a :: l)) q) = _
    rw [ktake_eq q n l]
    simp
noncomputable def kwin (cs : List AV) (off n : Nat) (κ : List AV → β) (q : β) : β := kdrop off cs (fun l => ktake n l κ q) q
theorem kwin_eq (cs : List AV) (off n : Nat) (κ : List AV → β) (q : β) : kwin cs off n κ q = oe (window cs off n) κ q := by
  simp only [kwin, kdrop_eq, ktake_eq, window]
  cases hb : Nat.ble (off + n) cs.length with
  | true =>
    have h := Nat.le_of_ble_eq_true hb
    rw [if_pos (by omega), if_pos (by simp; omega)]
    rfl
  | false =>
    have h : ¬ off + n ≤ cs.length := fun h => by rw [Nat.ble_eq_true_of_le h] at hb; cases hb
    split
    · rw [if_neg (by simp; omega)]; rfl
    · rfl
noncomputable def kx (tm : List (Nat × AV)) (x : X) (κ : AV → β) (q : β) : β := X.casesOn (motive := fun _ => β) x (fun n => klook tm n κ q) κ
theorem kx_eq (s : AS) (x : X) (κ : AV → β) (q : β) : kx s.tm x κ q = oe (s.view.ev x) κ q := by
  cases x with
  | t n => exact klook_eq _ _ _ _
  | c v => rfl
noncomputable def kdg1 (v : AV) (κ : AV → β) : β := AV.casesOn (motive_1 := fun _ => β) v (fun k n => κ (.int k n)) (fun b => κ (.bool b)) (fun s => κ (.str s)) (κ (.nilptr)) (fun i p => κ (.hptr i p)) (fun i p => κ (.lptr i p)) (fun e o => κ (.fptr e o)) (fun z l => κ (.sl z l)) (fun z l => κ (.sl z l)) (fun a b c d => κ (.hsl a b c d)) (fun l => κ (.agg l)) (fun l => κ (.tup l)) (fun t v => κ (.iface t v)) (κ (.nilif)) (fun f l => κ (.fn f l)) (κ (.nilfn)) (κ (.nsl)) (fun i => κ (.map i)) (κ (.undef))
theorem kdg1_eq (v : AV) (κ : AV → β) : kdg1 v κ = κ v.dg1 := by cases v <;> rfl
noncomputable def kmapd (l : List AV) (κ : List AV → β) : β := List.rec (motive := fun _ => (List AV → β) → β) (fun κ => κ []) (fun a _ ih κ => kdg1 a fun a => ih fun l => κ (a :: l)) l κ
theorem kmapd_eq : ∀ (l : List AV) (κ : List AV → β), kmapd l κ = κ (l.map AV.dg1)
  | [], κ => rfl
  | a :: l, κ => by
    show kdg1 a (fun a => kmapd l fun l => κ (a :: l)) = _
    rw [kdg1_eq, kmapd_eq l]
    rfl
noncomputable def kdgc (v : AV) (κ : AV → β) : β := AV.casesOn (motive_1 := fun _ => β) v (fun k n => κ (.int k n)) (fun b => κ (.bool b)) (fun s => κ (.str s)) (κ (.nilptr)) (fun i p => κ (.hptr i p)) (fun i p => κ (.lptr i p)) (fun e o => κ (.fptr e o)) (fun z l => κ (.sl z l)) (fun z l => κ (.sl z l)) (fun a b c d => κ (.hsl a b c d)) (fun l => kmapd l fun l => κ (.agg l)) (fun l => κ (.tup l)) (fun t v => κ (.iface t v)) (κ (.nilif)) (fun f l => κ (.fn f l)) (κ (.nilfn)) (κ (.nsl)) (fun i => κ (.map i)) (κ (.undef))
theorem kdgc_eq (v : AV) (κ : AV → β) : kdgc v κ = κ v.dgc := by cases v <;> first | rfl | exact kmapd_eq _ _
noncomputable def kmapc (l : List AV) (κ : List AV → β) : β := List.rec (motive := fun _ => (List AV → β) → β) (fun κ => κ []) (fun a _ ih κ => kdgc a fun a => ih fun l => κ (a :: l)) l κ
theorem kmapc_eq : ∀ (l : List AV) (κ : List AV → β), kmapc l κ = κ (l.map AV.dgc)
  | [], κ => rfl
  | a :: l, κ => by
    show kdgc a (fun a => kmapc l fun l => κ (a :: l)) = _
    rw [kdgc_eq, kmapc_eq l]
    rfl
noncomputable def kdg (v : AV) (κ : AV → β) : β := AV.casesOn (motive_1 := fun _ => β) v (fun k n => κ (.int k n)) (fun b => κ (.bool b)) (fun s => κ (.str s)) (κ (.nilptr)) (fun i p => κ (.hptr i p)) (fun i p => κ (.lptr i p)) (fun e o => κ (.fptr e o)) (fun z l => κ (.sl z l)) (fun z l => κ (.sl z l)) (fun a b c d => κ (.hsl a b c d)) (fun l => kmapd l fun l => κ (.agg l)) (fun l => kmapc l fun l => κ (.tup l)) (fun t v => κ (.iface t v)) (κ (.nilif)) (fun f l => κ (.fn f l)) (κ (.nilfn)) (κ (.nsl)) (fun i => κ (.map i)) (κ (.undef))
theorem kdg_eq (v : AV) (κ : AV → β) : kdg v κ = κ v.dg := by cases v <;> first | rfl | exact kmapd_eq _ _ | exact kmapc_eq _ _
noncomputable def kcopy (dep : List (Nat × List Nat)) (d : Option Nat) (v : AV) (κ : AV → β) (q : β) : β := AV.casesOn (motive_1 := fun _ => β) v (fun k n => κ (.int k n)) (fun b => κ (.bool b)) (fun s => κ (.str s)) (κ (.nilptr)) (fun i p => κ (.hptr i p)) (fun i p => Bool.rec (motive := fun _ => β) q (κ (.lptr i p)) (okd dep d (.lptr i p))) (fun e o => κ (.fptr e o)) (fun z l => κ (.sl z l)) (fun z l => κ (.sl z l)) (fun a b c d => κ (.hsl a b c d)) (fun l => kmapd l fun l => κ (.agg l)) (fun l => kmapc l fun l => κ (.tup l)) (fun t v => κ (.iface t v)) (κ (.nilif)) (fun f l => κ (.fn f l)) (κ (.nilfn)) (κ (.nsl)) (fun i => κ (.map i)) (κ (.undef))
theorem kcopy_eq (dep : List (Nat × List Nat)) (d : Option Nat) (v : AV) (κ : AV → β) (q : β) : kcopy dep d v κ q = oe (okv dep d v.dg) κ q := by
  cases v <;> first | rfl | exact kmapd_eq _ _ | exact kmapc_eq _ _ | skip
  rename_i i p
  show @Bool.rec (fun _ => β) q (κ (.lptr i p)) (okd dep d (.lptr i p)) = oe (okv dep d (.lptr i p)) κ q
  unfold okv
  cases okd dep d (.lptr i p) <;> rfl
noncomputable def kleft (x : X) (v : AV) (κ : List (Nat × AV) → β) : β := X.casesOn (motive := fun _ => β) x (fun n => kdg v fun v => κ [(n, v)]) (fun _ => κ [])
theorem kleft_eq (x : X) (v : AV) (κ : List (Nat × AV) → β) : kleft x v κ = κ (left x v) := by
  cases x with
  | t n =>
    show kdg v (fun v => κ [(n, v)]) = _
    rw [kdg_eq]
    rfl
  | c _ => rfl
noncomputable def kmv (d : Option Nat) (x : X) (b : Bool) (s : AS) (κ : Eff → β) (q : β) : β := Bool.rec (motive := fun _ => β)
  (kx s.tm x (fun v => kcopy s.dep d v (fun v => κ { v := v }) q) q)
  (kx s.tm x (fun v => Bool.rec (motive := fun _ => β) q (kleft x v fun tw => κ { v := v, tw := tw }) (okd s.dep d v)) q) b
theorem kmv_eq (d : Option Nat) (x : X) (b : Bool) (s : AS) (κ : Eff → β) (q : β) : kmv d x b s κ q = oe (aop d (.mv x b) s.view) κ q := by
  cases b with
  | false =>
    simp only [kmv, kx_eq, aop, pop, View.cp]
    cases s.view.ev x with
    | none => rfl
    | some v =>
      simp only [oe_some, kcopy_eq, Option.map_some]
      show _ = oe (match (match some v.dg with | some v => okv s.dep d v | none => none) with | some v => some { v := v } | none => none) κ q
      simp only
      cases okv s.dep d v.dg <;> rfl
  | true =>
    simp only [kmv, kx_eq, aop]
    cases s.view.ev x with
    | none => rfl
    | some v =>
      simp only [oe_some, kleft_eq]
      show @Bool.rec (fun _ => β) q (κ { v := v, tw := left x v }) (okd s.dep d v) = oe (match okd s.dep d v with | true => some { v := v, tw := left x v } | false => none) κ q
      cases okd s.dep d v <;> rfl
noncomputable def kkind (k : IntKind) : Nat := IntKind.casesOn (motive := fun _ => Nat) k 0 1 2 3 4 5 6 7
theorem kkind_eq {k k' : IntKind} : Nat.beq (kkind k) (kkind k') = decide (k = k') := by cases k <;> cases k' <;> rfl
def kadd (m n : Int) : Int := Int.casesOn (motive := fun _ => Int) m (fun a => Int.casesOn (motive := fun _ => Int) n (fun b => .ofNat (Nat.add a b)) (fun b => Int.add (.ofNat a) (.negSucc b))) (fun a => Int.add (.negSucc a) n)
theorem kadd_eq (m n : Int) : kadd m n = m + n := by cases m <;> cases n <;> rfl
def kilt (m n : Int) : Bool := Int.casesOn (motive := fun _ => Bool) m (fun a => Int.casesOn (motive := fun _ => Bool) n (fun b => Nat.blt a b) (fun _ => false)) (fun a => Int.casesOn (motive := fun _ => Bool) n (fun _ => true) (fun b => Nat.blt b a))
theorem kilt_eq (m n : Int) : kilt m n = decide (m < n) := by
  cases m <;> cases n <;> simp only [kilt]
  · rename_i a b
    rw [Bool.eq_iff_iff, Nat.blt_eq, decide_eq_true_iff]
    exact Int.ofNat_lt.symm
  · rename_i a b
    rw [Bool.eq_iff_iff, decide_eq_true_iff]
    simp
    omega
  · rename_i a b
    rw [Bool.eq_iff_iff, decide_eq_true_iff]
    simp
    omega
  · rename_i a b
    rw [Bool.eq_iff_iff, Nat.blt_eq, decide_eq_true_iff]
    omega
def kieq (m n : Int) : Bool := Int.casesOn (motive := fun _ => Bool) m (fun a => Int.casesOn (motive := fun _ => Bool) n (fun b => Nat.beq a b) (fun _ => false)) (fun a => Int.casesOn (motive := fun _ => Bool) n (fun _ => false) (fun b => Nat.beq a b))
theorem kieq_eq (m n : Int) : kieq m n = (m == n) := by
  cases m <;> cases n <;> simp only [kieq]
  · rename_i a b
    rw [Bool.eq_iff_iff, Nat.beq_eq, beq_iff_eq]
    exact Int.ofNat_inj.symm
  · rename_i a b
    rw [Bool.eq_iff_iff, beq_iff_eq]
    simp
  · rename_i a b
    rw [Bool.eq_iff_iff, beq_iff_eq]
    simp
  · rename_i a b
    rw [Bool.eq_iff_iff, Nat.beq_eq, beq_iff_eq]
    simp
noncomputable def kwrap64 (n : Int) (κ : Int → β) : β := Int.casesOn (motive := fun _ => β) n
  (fun m => Bool.rec (motive := fun _ => β) (fInt (IntKind.wrap .i64 (.ofNat m)) κ) (fNat m fun m => κ (.ofNat m)) (Nat.blt m 9223372036854775808))
  (fun m => Bool.rec (motive := fun _ => β) (fInt (IntKind.wrap .i64 (.negSucc m)) κ) (fNat m fun m => κ (.negSucc m)) (Nat.blt m 9223372036854775808))
theorem wrap64_id {n : Int} (h1 : -9223372036854775808 ≤ n) (h2 : n ≤ 9223372036854775807) : IntKind.wrap .i64 n = n := by
  simp [IntKind.wrap, IntKind.bits, IntKind.signed]
  split <;> omega
theorem kwrap64_eq (n : Int) (κ : Int → β) : kwrap64 n κ = κ (IntKind.wrap .i64 n) := by
  cases n with
  | ofNat m =>
    simp only [kwrap64, fInt_eq, fNat_eq]
    cases h : Nat.blt m 9223372036854775808 with
    | false => rfl
    | true =>
      rw [Nat.blt_eq] at h
      rw [wrap64_id (n := .ofNat m) (by simp only [Int.ofNat_eq_natCast]; omega) (by simp only [Int.ofNat_eq_natCast]; omega)]
  | negSucc m =>
    simp only [kwrap64, fInt_eq, fNat_eq]
    cases h : Nat.blt m 9223372036854775808 with
    | false => rfl
    | true =>
      rw [Nat.blt_eq] at h
      rw [wrap64_id (n := .negSucc m) (by omega) (by omega)]
noncomputable def kwrap (k : IntKind) (n : Int) (κ : Int → β) : β := Bool.rec (motive := fun _ => β) (fInt (k.wrap n) κ) (kwrap64 n κ) (Nat.beq (kkind k) 3)
theorem kwrap_eq (k : IntKind) (n : Int) (κ : Int → β) : kwrap k n κ = κ (k.wrap n) := by
  cases k <;> first | exact kwrap64_eq _ _ | exact fInt_eq _ _
noncomputable def kgenb (ty : BT) (op : BinOp) (a b : AV) (κ : AV → β) (q : β) : β := oe (abin ty op a b) (fun v => fSpine v κ) q
noncomputable def kint (ty : BT) (op : BinOp) (k : IntKind) (m : Int) (k' : IntKind) (n : Int) (κ : AV → β) (q : β) : β := Bool.rec (motive := fun _ => β) (kgenb ty op (.int k m) (.int k' n) κ q)
  (BinOp.casesOn (motive := fun _ => β) op (kwrap k (kadd m n) fun r => κ (.int k r)) (kgenb ty .sub (.int k m) (.int k' n) κ q) (kgenb ty .mul (.int k m) (.int k' n) κ q) (kgenb ty .quo (.int k m) (.int k' n) κ q) (kgenb ty .rem (.int k m) (.int k' n) κ q) (kgenb ty .and (.int k m) (.int k' n) κ q) (kgenb ty .or (.int k m) (.int k' n) κ q) (kgenb ty .xor (.int k m) (.int k' n) κ q) (kgenb ty .shl (.int k m) (.int k' n) κ q) (kgenb ty .shr (.int k m) (.int k' n) κ q) (kgenb ty .andNot (.int k m) (.int k' n) κ q) (fBool (kieq m n) fun b => κ (.bool b)) (fBool (!kieq m n) fun b => κ (.bool b)) (fBool (kilt m n) fun b => κ (.bool b)) (fBool (!kilt n m) fun b => κ (.bool b)) (fBool (kilt n m) fun b => κ (.bool b)) (fBool (!kilt m n) fun b => κ (.bool b))) (Nat.beq (kkind k) (kkind k'))
theorem kgenb_eq (ty : BT) (op : BinOp) (a b : AV) (κ : AV → β) (q : β) : kgenb ty op a b κ q = oe (abin ty op a b) κ q := by
  unfold kgenb
  cases abin ty op a b with
  | none => rfl
  | some v => exact fSpine_eq v κ
theorem kint_eq (ty : BT) (op : BinOp) (k : IntKind) (m : Int) (k' : IntKind) (n : Int) (κ : AV → β) (q : β) : kint ty op k m k' n κ q = oe (abin ty op (.int k m) (.int k' n)) κ q := by
  unfold kint
  rw [kkind_eq]
  by_cases h : k = k'
  · subst h
    simp only [decide_true]
    cases op <;> simp only [kgenb_eq, kwrap_eq, kadd_eq, fBool_eq, kilt_eq, kieq_eq] <;> simp [abin, oe, bne, ← Int.not_lt]
  · simp only [h, decide_false]
    exact kgenb_eq _ _ _ _ _ _
noncomputable def kstr (ty : BT) (op : BinOp) (a b : ByteArray) (κ : AV → β) (q : β) : β := BinOp.casesOn (motive := fun _ => β) op (kgenb ty .add (.str a) (.str b) κ q) (kgenb ty .sub (.str a) (.str b) κ q) (kgenb ty .mul (.str a) (.str b) κ q) (kgenb ty .quo (.str a) (.str b) κ q) (kgenb ty .rem (.str a) (.str b) κ q) (kgenb ty .and (.str a) (.str b) κ q) (kgenb ty .or (.str a) (.str b) κ q) (kgenb ty .xor (.str a) (.str b) κ q) (kgenb ty .shl (.str a) (.str b) κ q) (kgenb ty .shr (.str a) (.str b) κ q) (kgenb ty .andNot (.str a) (.str b) κ q) (fBool (bytesEq a.data.toList b.data.toList) fun b => κ (.bool b)) (fBool (!bytesEq a.data.toList b.data.toList) fun b => κ (.bool b)) (kgenb ty .lss (.str a) (.str b) κ q) (kgenb ty .leq (.str a) (.str b) κ q) (kgenb ty .gtr (.str a) (.str b) κ q) (kgenb ty .geq (.str a) (.str b) κ q)
theorem kstr_eq (ty : BT) (op : BinOp) (a b : ByteArray) (κ : AV → β) (q : β) : kstr ty op a b κ q = oe (abin ty op (.str a) (.str b)) κ q := by
  unfold kstr
  cases op <;> simp only [kgenb_eq, fBool_eq] <;> simp only [abin, oe, bytesEq_iff, ByteArray.toList_eq]
noncomputable def kabinI (ty : BT) (op : BinOp) (k : IntKind) (n : Int) (y : AV) (κ : AV → β) (q : β) : β := AV.casesOn (motive_1 := fun _ => β) y (fun k' n' => kint ty op k n k' n' κ q) (fun _ => kgenb ty op (.int k n) y κ q) (fun _ => kgenb ty op (.int k n) y κ q) (kgenb ty op (.int k n) y κ q) (fun _ _ => kgenb ty op (.int k n) y κ q) (fun _ _ => kgenb ty op (.int k n) y κ q) (fun _ _ => kgenb ty op (.int k n) y κ q) (fun _ _ => kgenb ty op (.int k n) y κ q) (fun _ _ => kgenb ty op (.int k n) y κ q) (fun _ _ _ _ => kgenb ty op (.int k n) y κ q) (fun _ => kgenb ty op (.int k n) y κ q) (fun _ => kgenb ty op (.int k n) y κ q) (fun _ _ => kgenb ty op (.int k n) y κ q) (kgenb ty op (.int k n) y κ q) (fun _ _ => kgenb ty op (.int k n) y κ q) (kgenb ty op (.int k n) y κ q) (kgenb ty op (.int k n) y κ q) (fun _ => kgenb ty op (.int k n) y κ q) (kgenb ty op (.int k n) y κ q)
noncomputable def kabinS (ty : BT) (op : BinOp) (s : ByteArray) (y : AV) (κ : AV → β) (q : β) : β := AV.casesOn (motive_1 := fun _ => β) y (fun _ _ => kgenb ty op (.str s) y κ q) (fun _ => kgenb ty op (.str s) y κ q) (fun t => kstr ty op s t κ q) (kgenb ty op (.str s) y κ q) (fun _ _ => kgenb ty op (.str s) y κ q) (fun _ _ => kgenb ty op (.str s) y κ q) (fun _ _ => kgenb ty op (.str s) y κ q) (fun _ _ => kgenb ty op (.str s) y κ q) (fun _ _ => kgenb ty op (.str s) y κ q) (fun _ _ _ _ => kgenb ty op (.str s) y κ q) (fun _ => kgenb ty op (.str s) y κ q) (fun _ => kgenb ty op (.str s) y κ q) (fun _ _ => kgenb ty op (.str s) y κ q) (kgenb ty op (.str s) y κ q) (fun _ _ => kgenb ty op (.str s) y κ q) (kgenb ty op (.str s) y κ q) (kgenb ty op (.str s) y κ q) (fun _ => kgenb ty op (.str s) y κ q) (kgenb ty op (.str s) y κ q)
theorem kabinI_eq (ty : BT) (op : BinOp) (k : IntKind) (n : Int) (b : AV) (κ : AV → β) (q : β) : kabinI ty op k n b κ q = oe (abin ty op (.int k n) b) κ q := by cases b <;> first | exact kint_eq _ _ _ _ _ _ _ _ | exact kgenb_eq _ _ _ _ _ _
theorem kabinS_eq (ty : BT) (op : BinOp) (s : ByteArray) (b : AV) (κ : AV → β) (q : β) : kabinS ty op s b κ q = oe (abin ty op (.str s) b) κ q := by cases b <;> first | exact kstr_eq _ _ _ _ _ _ | exact kgenb_eq _ _ _ _ _ _
noncomputable def kabin (ty : BT) (op : BinOp) (x y : AV) (κ : AV → β) (q : β) : β := AV.casesOn (motive_1 := fun _ => β) x (fun k n => kabinI ty op k n y κ q) (fun _ => kgenb ty op x y κ q) (fun s => kabinS ty op s y κ q) (kgenb ty op x y κ q) (fun _ _ => kgenb ty op x y κ q) (fun _ _ => kgenb ty op x y κ q) (fun _ _ => kgenb ty op x y κ q) (fun _ _ => kgenb ty op x y κ q) (fun _ _ => kgenb ty op x y κ q) (fun _ _ _ _ => kgenb ty op x y κ q) (fun _ => kgenb ty op x y κ q) (fun _ => kgenb ty op x y κ q) (fun _ _ => kgenb ty op x y κ q) (kgenb ty op x y κ q) (fun _ _ => kgenb ty op x y κ q) (kgenb ty op x y κ q) (kgenb ty op x y κ q) (fun _ => kgenb ty op x y κ q) (kgenb ty op x y κ q)
noncomputable def kbin (ty : BT) (op : BinOp) (x y : X) (s : AS) (κ : Eff → β) (q : β) : β := kx s.tm x (fun a => kdg a fun a => kx s.tm y (fun b => kabin ty op a b (fun v => κ { v := v }) q) q) q
theorem kabin_eq (ty : BT) (op : BinOp) (a b : AV) (κ : AV → β) (q : β) : kabin ty op a b κ q = oe (abin ty op a b) κ q := by
  cases a <;> first | exact kabinI_eq _ _ _ _ _ _ _ | exact kabinS_eq _ _ _ _ _ _ | exact kgenb_eq _ _ _ _ _ _
theorem kbin_eq (d : Option Nat) (ty : BT) (op : BinOp) (x y : X) (s : AS) (κ : Eff → β) (q : β) : kbin ty op x y s κ q = oe (aop d (.bin ty op x y) s.view) κ q := by
  simp only [kbin, kx_eq, aop, pop, View.cp]
  cases s.view.ev x with
  | none => rfl
  | some a =>
    simp only [oe_some, kdg_eq, Option.map_some]
    cases s.view.ev y with
    | none => rfl
    | some b =>
      simp only [oe_some, kabin_eq]
      cases abin ty op a.dg b <;> rfl
end
end Go.Am
