import Derived.Test.YtmdpemgiidjbcaaMD
import Derived.OpenShut
import Derived.Deep.Slices
import Derived.ChangeSame
import Derived.Carry
set_option linter.unusedSimpArgs false
set_option linter.unusedVariables false
set_option linter.unusedSimpArgs false
set_option linter.unusedVariables false
set_option linter.unusedSectionVars false
open Go.RowKit
namespace Go.Am
section
variable {β : Type}
noncomputable def klen1 (v : AV) (κ : AV → β) (q : β) : β := AV.casesOn (motive_1 := fun _ => β) v (fun _ _ => q) (fun _ => q) (fun _ => q) (q) (fun _ _ => q) (fun _ _ => q) (fun _ _ => q) (fun _ l => fNat (klenL l) fun m => κ (.int .i64 (.ofNat m))) (fun _ _ => q) (fun _ _ _ d => κ (.int .i64 (.ofNat d))) (fun _ => q) (fun _ => q) (fun _ _ => q) (q) (fun _ _ => q) (q) (κ (.int .i64 0)) (fun _ => q) (q)
noncomputable def klen0 (v : AV) (κ : AV → β) (q : β) : β := AV.casesOn (motive_1 := fun _ => β) v (fun _ _ => q) (fun _ => q) (fun s => fNat (klenL s.data.toList) fun m => κ (.int .i64 (.ofNat m))) (q) (fun _ _ => q) (fun _ _ => q) (fun _ _ => q) (fun _ _ => q) (fun _ _ => q) (fun _ _ _ _ => q) (fun _ => q) (fun _ => q) (fun _ _ => q) (q) (fun _ _ => q) (q) (q) (fun _ => q) (q)
noncomputable def klen (st : Bool) (x : X) (s : AS) (κ : Eff → β) (q : β) : β := kx s.tm x (fun v => kdg v fun v => Bool.rec (motive := fun _ => β) (klen1 v (fun v => κ { v := v }) q) (klen0 v (fun v => κ { v := v }) q) st) q
theorem klen_eq (d : Option Nat) (st : Bool) (x : X) (s : AS) (κ : Eff → β) (q : β) : klen st x s κ q = oe (aop d (.len st x) s.view) κ q := by
  simp only [klen, kx_eq, aop, pop, View.cp]
  cases s.view.ev x with
  | none => cases st <;> rfl
  | some v =>
    simp only [oe_some, kdg_eq, Option.map_some]
    cases st with
    | false => cases v.dg <;> simp only [klen1, fNat_eq, klenL_eq] <;> rfl
    | true =>
      cases v.dg <;> simp only [klen0, fNat_eq, klenL_eq] <;> first | rfl | skip
noncomputable def kia (v : AV) (m sz : Nat) (κ : Eff → β) (q : β) : β := AV.casesOn (motive_1 := fun _ => β) v (fun _ _ => q) (fun _ => q) (fun _ => q) (q) (fun _ _ => q) (fun _ _ => q) (fun _ _ => q) (fun z l => Bool.rec (motive := fun _ => β) q (kget l m (fun e => κ { v := .fptr e 0 }) q) (Nat.beq sz z)) (fun _ _ => q) (fun a b c d => Bool.rec (motive := fun _ => β) q (Bool.rec (motive := fun _ => β) q (fNat ((c + m) * sz) fun p => κ { v := .hptr a p }) (Nat.beq sz b)) (Nat.blt m d)) (fun _ => q) (fun _ => q) (fun _ _ => q) (q) (fun _ _ => q) (q) (q) (fun _ => q) (q)
noncomputable def kiI (i : AV) (v : AV) (sz : Nat) (κ : Eff → β) (q : β) : β := AV.casesOn (motive_1 := fun _ => β) i (fun _ n => Int.casesOn (motive := fun _ => β) n (fun m => kia v m sz κ q) (fun _ => q)) (fun _ => q) (fun _ => q) (q) (fun _ _ => q) (fun _ _ => q) (fun _ _ => q) (fun _ _ => q) (fun _ _ => q) (fun _ _ _ _ => q) (fun _ => q) (fun _ => q) (fun _ _ => q) (q) (fun _ _ => q) (q) (q) (fun _ => q) (q)
noncomputable def kiaddr (x ix : X) (sz : Nat) (s : AS) (κ : Eff → β) (q : β) : β := kx s.tm x (fun v => kdg v fun v => kx s.tm ix (fun i => kiI i v sz κ q) q) q
theorem kiaddr_eq (d : Option Nat) (x ix : X) (sz : Nat) (s : AS) (κ : Eff → β) (q : β) : kiaddr x ix sz s κ q = oe (aop d (.iaddr x ix sz) s.view) κ q := by
  simp only [kiaddr, kx_eq, aop, pop, View.cp]
  cases s.view.ev x with
  | none => rfl
  | some v =>
    simp only [oe_some, kdg_eq, Option.map_some]
    cases s.view.ev ix with
    | none => cases v.dg <;> rfl
    | some i =>
      simp only [oe_some]
      generalize v.dg = u
      cases i with
      | int k n =>
        cases n with
        | negSucc m => cases u <;> first | rfl | (simp only [kiI]; simp [oe])
        | ofNat m =>
          cases u <;> first | rfl | skip
          · rename_i z l
            simp only [kiI, kia, kget_eq]
            have e1 : decide (0 ≤ Int.ofNat m) = true := by simp
            have e2 : (Int.ofNat m).toNat = m := rfl
            rw [e1, e2]
            cases l[m]? <;> cases Nat.beq sz z <;> rfl
          · rename_i a b c dd
            simp only [kiI, kia, fNat_eq]
            have e1 : decide (0 ≤ Int.ofNat m) = true := by simp
            have e2 : (Int.ofNat m).toNat = m := rfl
            have e3 : decide (Int.ofNat m < (dd : Int)) = Nat.blt m dd := by
              rw [Bool.eq_iff_iff, decide_eq_true_iff, Nat.blt_eq]
              simp
            rw [e1, e2, e3]
            cases Nat.blt m dd <;> cases Nat.beq sz b <;> rfl
      | _ => cases u <;> rfl
noncomputable def kfa (dep : List (Nat × List Nat)) (d : Option Nat) (v : AV) (off : Nat) (κ : Eff → β) (q : β) : β := AV.casesOn (motive_1 := fun _ => β) v (fun _ _ => q) (fun _ => q) (fun _ => q) (q) (fun i p => fNat (p + off) fun p => κ { v := .hptr i p }) (fun i p => fNat (p + off) fun p => Bool.rec (motive := fun _ => β) q (κ { v := .lptr i p }) (okd dep d (.lptr i p))) (fun e o => fNat (o + off) fun p => κ { v := .fptr e p }) (fun _ _ => q) (fun _ _ => q) (fun _ _ _ _ => q) (fun _ => q) (fun _ => q) (fun _ _ => q) (q) (fun _ _ => q) (q) (q) (fun _ => q) (q)
noncomputable def kfaddr (d : Option Nat) (x : X) (off : Nat) (s : AS) (κ : Eff → β) (q : β) : β := kx s.tm x (fun v => kfa s.dep d v off κ q) q
theorem kfaddr_eq (d : Option Nat) (x : X) (off : Nat) (s : AS) (κ : Eff → β) (q : β) : kfaddr d x off s κ q = oe (aop d (.faddr x off) s.view) κ q := by
  simp only [kfaddr, kx_eq, aop, pop]
  cases s.view.ev x with
  | none => rfl
  | some v =>
    simp only [oe_some]
    cases v <;> simp only [kfa, fNat_eq] <;> first | rfl | skip
    rename_i i p
    show @Bool.rec (fun _ => β) q (κ { v := .lptr i (p + off) }) (okd s.dep d (.lptr i (p + off))) = oe (match okv s.dep d (.lptr i (p + off)) with | some v => some { v := v } | none => none) κ q
    unfold okv
    cases okd s.dep d (.lptr i (p + off)) <;> rfl
noncomputable def kmkv (ag : Bool) (cs : List AV) (κ : AV → β) (q : β) : β := Bool.rec (motive := fun _ => β) (List.casesOn (motive := fun _ => β) cs q (fun v t => List.casesOn (motive := fun _ => β) t (κ v) (fun _ _ => q))) (κ (.agg cs)) ag
theorem kmkv_eq (ag : Bool) (cs : List AV) (κ : AV → β) (q : β) : kmkv ag cs κ q = oe (mkv ag cs) κ q := by
  cases ag with
  | true => rfl
  | false => match cs with
    | [] => rfl
    | [v] => rfl
    | _ :: _ :: _ => rfl
noncomputable def kcells (v : AV) (κ : List AV → β) : β := AV.casesOn (motive_1 := fun _ => β) v (fun k n => κ [.int k n]) (fun b => κ [.bool b]) (fun s => κ [.str s]) (κ [.nilptr]) (fun i p => κ [.hptr i p]) (fun i p => κ [.lptr i p]) (fun e o => κ [.fptr e o]) (fun z l => κ [.sl z l]) (fun z l => κ [.xsl z l]) (fun a b c d => κ [.hsl a b c d]) (fun l => κ l) (fun l => κ [.tup l]) (fun t v => κ [.iface t v]) (κ [.nilif]) (fun f l => κ [.fn f l]) (κ [.nilfn]) (κ [.nsl]) (fun i => κ [.map i]) (κ [.undef])
theorem kcells_eq (v : AV) (κ : List AV → β) : kcells v κ = κ v.cells := by cases v <;> rfl
noncomputable def kobj (o : HObj) (κ : List AV → β) (q : β) : β := HObj.casesOn (motive := fun _ => β) o κ q (fun _ => q)
noncomputable def kat (s : AS) (v : AV) (n : Nat) (κ : List AV → β) (q : β) : β := AV.casesOn (motive_1 := fun _ => β) v (fun _ _ => q) (fun _ => q) (fun _ => q) (q) (fun i p => kget s.hp i (fun o => kobj o (fun cs => kwin cs p n κ q) q) q) (fun i p => klook s.bx i (fun cs => kwin cs p n κ q) q) (fun e o => kcells e fun cs => kwin cs o n κ q) (fun _ _ => q) (fun _ _ => q) (fun _ _ _ _ => q) (fun _ => q) (fun _ => q) (fun _ _ => q) (q) (fun _ _ => q) (q) (q) (fun _ => q) (q)
theorem kat_eq (s : AS) (v : AV) (n : Nat) (κ : List AV → β) (q : β) : kat s v n κ q = oe (s.view.at v n) κ q := by
  cases v <;> first | rfl | simp only [kat, klook_eq, kget_eq, kcells_eq, kwin_eq]
  · rename_i i p
    show oe s.hp[i]? _ q = oe (match s.hp[i]? with | some (.obj cs) => window cs p n | _ => none) κ q
    cases s.hp[i]? with
    | none => rfl
    | some o => cases o <;> rfl
  · rename_i i p
    show oe (look s.bx i) _ q = oe (match look s.bx i with | some cs => window cs p n | none => none) κ q
    cases look s.bx i <;> rfl
  · rfl
noncomputable def kgen (d : Option Nat) (o : AOp) (s : AS) (κ : Eff → β) (q : β) : β := oe (aop d o s.view) (fun e => fEff o e κ) q
theorem kgen_eq (d : Option Nat) (o : AOp) (s : AS) (κ : Eff → β) (q : β) : kgen d o s κ q = oe (aop d o s.view) κ q := by
  unfold kgen
  cases aop d o s.view with
  | none => rfl
  | some e => exact fEff_eq o e κ
noncomputable def kload (d : Option Nat) (a : X) (n : Nat) (ag st : Bool) (s : AS) (κ : Eff → β) (q : β) : β := Bool.rec (motive := fun _ => β)
  (kx s.tm a (fun p => kat s p n (fun cs => kmkv ag cs (fun v => kdg v fun v => κ { v := v }) q) q) q) (kgen d (.load a n ag true) s κ q) st
theorem kload_eq (d : Option Nat) (a : X) (n : Nat) (ag st : Bool) (s : AS) (κ : Eff → β) (q : β) : kload d a n ag st s κ q = oe (aop d (.load a n ag st) s.view) κ q := by
  cases st with
  | true => exact kgen_eq _ _ _ _ _
  | false =>
    simp only [kload, kx_eq, kat_eq, kmkv_eq, kdg_eq, aop]
    cases s.view.ev a with
    | none => rfl
    | some p =>
      simp only [oe_some]
      cases s.view.at p n with
      | none => rfl
      | some cs =>
        simp only [oe_some]
        cases mkv ag cs <;> rfl
noncomputable def kidI (i : AV) (b : ByteArray) (κ : Eff → β) (q : β) : β := AV.casesOn (motive_1 := fun _ => β) i (fun _ n => Int.casesOn (motive := fun _ => β) n (fun m => kget b.data.toList m (fun u => fNat u.toNat fun c => κ { v := .int .u8 (.ofNat c) }) q) (fun _ => q)) (fun _ => q) (fun _ => q) (q) (fun _ _ => q) (fun _ _ => q) (fun _ _ => q) (fun _ _ => q) (fun _ _ => q) (fun _ _ _ _ => q) (fun _ => q) (fun _ => q) (fun _ _ => q) (q) (fun _ _ => q) (q) (q) (fun _ => q) (q)
noncomputable def kidS (v i : AV) (κ : Eff → β) (q : β) : β := AV.casesOn (motive_1 := fun _ => β) v (fun _ _ => q) (fun _ => q) (fun s => kidI i s κ q) (q) (fun _ _ => q) (fun _ _ => q) (fun _ _ => q) (fun _ _ => q) (fun _ _ => q) (fun _ _ _ _ => q) (fun _ => q) (fun _ => q) (fun _ _ => q) (q) (fun _ _ => q) (q) (q) (fun _ => q) (q)
noncomputable def kidxS (x ix : X) (s : AS) (κ : Eff → β) (q : β) : β := kx s.tm x (fun v => kx s.tm ix (fun i => kidS v i κ q) q) q
theorem kidxS_eq (d : Option Nat) (x ix : X) (s : AS) (κ : Eff → β) (q : β) : kidxS x ix s κ q = oe (aop d (.idxS x ix) s.view) κ q := by
  simp only [kidxS, kx_eq, aop, pop]
  cases s.view.ev x with
  | none => rfl
  | some v =>
    simp only [oe_some]
    cases s.view.ev ix with
    | none => cases v <;> rfl
    | some i =>
      simp only [oe_some]
      cases v <;> first | rfl | skip
      rename_i b
      cases i <;> first | rfl | skip
      rename_i k n
      cases n with
      | negSucc m => simp [kidS, kidI, oe]
      | ofNat m =>
        simp only [kidS, kidI, kget_eq, fNat_eq]
        have e1 : decide (0 ≤ Int.ofNat m) = true := by simp
        have e2 : (Int.ofNat m).toNat = m := rfl
        have e3 : b[m]? = b.data.toList[m]? := by
          rw [Array.getElem?_toList]
          rfl
        rw [e1, e2, e3]
        cases b.data.toList[m]? <;> rfl
noncomputable def kfv (v : AV) (off n : Nat) (ag : Bool) (κ : Eff → β) (q : β) : β := AV.casesOn (motive_1 := fun _ => β) v (fun _ _ => q) (fun _ => q) (fun _ => q) (q) (fun _ _ => q) (fun _ _ => q) (fun _ _ => q) (fun _ _ => q) (fun _ _ => q) (fun _ _ _ _ => q) (fun l => kwin l off n (fun cs => kmkv ag cs (fun v => κ { v := v }) q) q) (fun _ => q) (fun _ _ => q) (q) (fun _ _ => q) (q) (q) (fun _ => q) (q)
noncomputable def kfld (x : X) (off n : Nat) (ag : Bool) (s : AS) (κ : Eff → β) (q : β) : β := kx s.tm x (fun v => kdg v fun v => kfv v off n ag κ q) q
theorem kfld_eq (d : Option Nat) (x : X) (off n : Nat) (ag : Bool) (s : AS) (κ : Eff → β) (q : β) : kfld x off n ag s κ q = oe (aop d (.fld x off n ag) s.view) κ q := by
  simp only [kfld, kx_eq, aop, pop, View.cp]
  cases s.view.ev x with
  | none => rfl
  | some v =>
    simp only [oe_some, kdg_eq, Option.map_some]
    cases v.dg <;> first | rfl | simp only [kfv, kwin_eq, kmkv_eq]
    rename_i cs
    cases window cs off n with
    | none => rfl
    | some w =>
      simp only [oe_some]
      cases mkv ag w <;> rfl
noncomputable def kex (v : AV) (i : Nat) (κ : Eff → β) (q : β) : β := AV.casesOn (motive_1 := fun _ => β) v (fun _ _ => q) (fun _ => q) (fun _ => q) (q) (fun _ _ => q) (fun _ _ => q) (fun _ _ => q) (fun _ _ => q) (fun _ _ => q) (fun _ _ _ _ => q) (fun _ => q) (fun l => kget l i (fun v => κ { v := v }) q) (fun _ _ => q) (q) (fun _ _ => q) (q) (q) (fun _ => q) (q)
noncomputable def kextr (x : X) (i : Nat) (s : AS) (κ : Eff → β) (q : β) : β := kx s.tm x (fun v => kdg v fun v => kex v i κ q) q
theorem kextr_eq (d : Option Nat) (x : X) (i : Nat) (s : AS) (κ : Eff → β) (q : β) : kextr x i s κ q = oe (aop d (.extr x i) s.view) κ q := by
  simp only [kextr, kx_eq, aop, pop, View.cp]
  cases s.view.ev x with
  | none => rfl
  | some v =>
    simp only [oe_some, kdg_eq, Option.map_some]
    cases v.dg <;> first | rfl | simp only [kex, kget_eq]
    rename_i vs
    cases vs[i]? <;> rfl
noncomputable def kop (d : Option Nat) (o : AOp) (s : AS) (κ : Eff → β) (q : β) : β := AOp.casesOn (motive := fun _ => β) o
    (fun x b => kmv d x b s κ q)
    (fun c a b => kgen d (.pick c a b) s κ q)
    (fun z h => kgen d (.alloc z h) s κ q)
    (fun x h => kgen d (.box x h) s κ q)
    (fun z ps => kgen d (.build z ps) s κ q)
    (fun sz n z ps h => kgen d (.bslice sz n z ps h) s κ q)
    (fun a n ag st => kload d a n ag st s κ q)
    (fun a x n => kgen d (.store a x n) s κ q)
    (fun x => kgen d (.nilchk x) s κ q)
    (fun ty op x y => kbin ty op x y s κ q)
    (fun ng fs x y => kgen d (.eqst ng fs x y) s κ q)
    (fun op x => kgen d (.un op x) s κ q)
    (fun k x => kgen d (.conv k x) s κ q)
    (fun x => kgen d (.b2s x) s κ q)
    (fun t x => kgen d (.mkif t x) s κ q)
    (fun f cs => kgen d (.mkfn f cs) s κ q)
    (kgen d (.mkmap) s κ q)
    (fun sz by_ z n h => kgen d (.mkarr sz by_ z n h) s κ q)
    (fun x lo hi => kgen d (.slcS x lo hi) s κ q)
    (fun x lo hi sz => kgen d (.slc x lo hi sz) s κ q)
    (fun x off => kfaddr d x off s κ q)
    (fun x off n ag => kfld x off n ag s κ q)
    (fun x ix sz => kiaddr x ix sz s κ q)
    (fun x ix ln sz => kgen d (.iaddrA x ix ln sz) s κ q)
    (fun x ix => kidxS x ix s κ q)
    (fun x ix ln sz ag => kgen d (.idxA x ix ln sz ag) s κ q)
    (fun m k z ok st => kgen d (.lookup m k z ok st) s κ q)
    (fun m k v st => kgen d (.mapup m k v st) s κ q)
    (fun x t z ok => kgen d (.tassert x t z ok) s κ q)
    (fun x i => kextr x i s κ q)
    (fun x y sz by_ => kgen d (.app x y sz by_) s κ q)
    (fun st x => klen st x s κ q)
    (fun xs => kgen d (.mx xs) s κ q)
    (fun xs => kgen d (.mn xs) s κ q)
    (fun f xs => kgen d (.call f xs) s κ q)
    (fun f xs => kgen d (.callv f xs) s κ q)
    (kgen d (.recov) s κ q)
    (fun x => kgen d (.panic x) s κ q)
    (fun f xs => kgen d (.defer f xs) s κ q)
    (kgen d (.bad) s κ q)
theorem kop_eq (d : Option Nat) (o : AOp) (s : AS) (κ : Eff → β) (q : β) : kop d o s κ q = oe (aop d o s.view) κ q := by
  cases o with
  | mv x b => exact kmv_eq d x b s κ q
  | bin ty op x y => exact kbin_eq d ty op x y s κ q
  | len st x => exact klen_eq d st x s κ q
  | iaddr x ix sz => exact kiaddr_eq d x ix sz s κ q
  | faddr x off => exact kfaddr_eq d x off s κ q
  | load a n ag st => exact kload_eq d a n ag st s κ q
  | idxS x ix => exact kidxS_eq d x ix s κ q
  | fld x off n ag => exact kfld_eq d x off n ag s κ q
  | extr x i => exact kextr_eq d x i s κ q
  | _ => exact kgen_eq _ _ _ _ _
end
abbrev KR := Option (AR × AS)
noncomputable def kapply (s : AS) (d : Option Nat) (e : Eff) (κ : AS → KR) : KR :=
  Eff.casesOn (motive := fun _ => KR) e fun v tw bw hw dw =>
    List.rec (motive := fun _ => List (Nat × AV) → KR) (fun tm => Option.casesOn (motive := fun _ => KR) d (kap2 s.dep tm s.bx s.hp s.df bw hw dw κ) fun d => kput tm d v fun tm => kap2 s.dep tm s.bx s.hp s.df bw hw dw κ)
      (fun p _ ih tm => kput tm p.1 p.2 ih) tw s.tm
where
  kap2 (dep : List (Nat × List Nat)) (tm : List (Nat × AV)) (bx : List (Nat × List AV)) (hp : List HObj) (df : List (AV × List AV)) (bw : Option (Nat × List AV)) (hw : Option (List HObj)) (dw : Option (AV × List AV)) (κ : AS → KR) : KR :=
    Option.casesOn (motive := fun _ => KR) bw (kap3 dep tm bx hp df hw dw κ) fun b => kput bx b.1 b.2 fun bx => kap3 dep tm bx hp df hw dw κ
  kap3 (dep : List (Nat × List Nat)) (tm : List (Nat × AV)) (bx : List (Nat × List AV)) (hp : List HObj) (df : List (AV × List AV)) (hw : Option (List HObj)) (dw : Option (AV × List AV)) (κ : AS → KR) : KR :=
    Option.casesOn (motive := fun _ => KR) hw (kap4 dep tm bx hp df dw κ) fun hp => kap4 dep tm bx hp df dw κ
  kap4 (dep : List (Nat × List Nat)) (tm : List (Nat × AV)) (bx : List (Nat × List AV)) (hp : List HObj) (df : List (AV × List AV)) (dw : Option (AV × List AV)) (κ : AS → KR) : KR :=
    Option.casesOn (motive := fun _ => KR) dw (κ ⟨dep, tm, bx, hp, df⟩) fun x => κ ⟨dep, tm, bx, hp, x :: df⟩
theorem kapply_eq (s : AS) (d : Option Nat) (e : Eff) (κ : AS → KR) : kapply s d e κ = κ (s.apply d e) := by
  obtain ⟨v, tw, bw, hw, dw⟩ := e
  have h1 : ∀ (tw tm : List (Nat × AV)), (List.rec (motive := fun _ => List (Nat × AV) → KR) (fun tm => Option.casesOn (motive := fun _ => KR) d (kapply.kap2 s.dep tm s.bx s.hp s.df bw hw dw κ) fun d => kput tm d v fun tm => kapply.kap2 s.dep tm s.bx s.hp s.df bw hw dw κ)
      (fun p _ ih tm => kput tm p.1 p.2 ih) tw tm : KR) = kapply.kap2 s.dep (putd (puts tm tw) d v) s.bx s.hp s.df bw hw dw κ := by
    intro tw
    induction tw with
    | nil =>
      intro tm
      cases d with
      | none => rfl
      | some d => exact kput_eq d v tm _
    | cons p tw ih =>
      intro tm
      obtain ⟨t, u⟩ := p
      refine (kput_eq t u tm _).trans ?_
      exact ih _
  refine (h1 tw s.tm).trans ?_
  cases bw with
  | none => cases hw <;> cases dw <;> rfl
  | some b =>
    obtain ⟨b, cs⟩ := b
    refine (kput_eq b cs s.bx _).trans ?_
    cases hw <;> cases dw <;> rfl
/-- One operation with what follows. -/
noncomputable def kval (tm : List (Nat × AV)) (x : X) (κ : AV → KR) : KR := kx tm x (fun v => kdg v fun v => Bool.rec (motive := fun _ => KR) none (κ v) v.isV) none
noncomputable def kvals (tm : List (Nat × AV)) (xs : List X) (κ : List AV → KR) : KR := List.rec (motive := fun _ => (List AV → KR) → KR) (fun κ => κ []) (fun x _ ih κ => kval tm x fun v => ih fun vs => κ (v :: vs)) xs κ
theorem kval_eq (s : AS) (x : X) (κ : AV → KR) : kval s.tm x κ = oe (s.view.val x) κ none := by
  simp only [kval, kx_eq, View.val]
  cases s.view.ev x with
  | none => rfl
  | some v =>
    simp only [oe_some, kdg_eq, AV.chk]
    cases v.dg.isV <;> rfl
theorem kvals_eq (s : AS) : ∀ (xs : List X) (κ : List AV → KR), kvals s.tm xs κ = oe (valAll s.view xs) κ none
  | [], κ => rfl
  | x :: xs, κ => by
    show kval s.tm x (fun v => kvals s.tm xs fun vs => κ (v :: vs)) = _
    simp only [kval_eq, valAll, kvals_eq s xs]
    cases s.view.val x <;> cases valAll s.view xs <;> rfl
noncomputable def kret (s : AS) (d : Option Nat) (r : Option (AEnd × List HObj)) (κ : Eff → KR) (p : AV → List HObj → KR) : KR :=
  Option.casesOn (motive := fun _ => KR) r none fun r => AEnd.casesOn (motive := fun _ => KR) r.1 (fun v => Bool.rec (motive := fun _ => KR) none (κ { v := v, hw := some r.2 }) (okd s.dep d v)) (fun v => p v r.2)
/-- 'κ': it goes on; 'p': a panic. -/
noncomputable def kstp (c : CallF) (o : AOper) (s : AS) (κ : Eff → KR) (p : AV → List HObj → KR) : KR :=
  match guarded s.view o.g with
  | none => none
  | some false => κ { v := .tup [] }
  | some true => kstp1 c o.d o.op s κ p
where
  kstp1 (c : CallF) (d : Option Nat) (o : AOp) (s : AS) (κ : Eff → KR) (p : AV → List HObj → KR) : KR := match o with
    | .call f args => kvals s.tm args fun vs => kret s d (c f vs s.hp) κ p
    | .callv x args => kval s.tm x fun f => kvals s.tm args fun vs => match f with
      | .fn f caps => kret s d (c f (vs ++ caps) s.hp) κ p
      | _ => none
    | .panic x => kval s.tm x fun v => match v with
      | .iface t v => p (.iface t v) s.hp
      | _ => none
    | o => kop d o s κ none
theorem kstp_spec {c : CallF} {o : AOper} {s : AS} {κ : Eff → KR} {p : AV → List HObj → KR} {x : AR × AS} (h : kstp c o s κ p = some x) :
    (∃ e, Stp c.rel o s.view e ∧ κ e = some x) ∨ (∃ v h', Pan c.rel o s.view v h' ∧ p v h' = some x) := by
  have hret : ∀ {f vs}, kret s o.d (c f vs s.hp) κ p = some x → (∃ v h', c f vs s.hp = some (.ret v, h') ∧ okd s.dep o.d v = true ∧ κ { v := v, hw := some h' } = some x) ∨ ∃ v h', c f vs s.hp = some (.panic v, h') ∧ p v h' = some x := by
    intro f vs h
    unfold kret at h
    cases hc : c f vs s.hp with
    | none => rw [hc] at h; cases h
    | some r =>
      rw [hc] at h
      obtain ⟨r, h'⟩ := r
      cases r with
      | ret v =>
        simp only at h
        cases hk : okd s.dep o.d v with
        | false => rw [hk] at h; cases h
        | true => rw [hk] at h; exact .inl ⟨v, h', rfl, hk, h⟩
      | panic v => exact .inr ⟨v, h', rfl, h⟩
  unfold kstp at h
  split at h
  · cases h
  · rename_i hg
    exact .inl ⟨_, .skip hg, h⟩
  · rename_i hg
    unfold kstp.kstp1 at h
    split at h
    · rename_i f args hop
      rw [kvals_eq] at h
      cases hv : valAll s.view args with
      | none => rw [hv] at h; cases h
      | some vs =>
        rw [hv] at h
        rcases hret h with ⟨v, h', h1, h2, h3⟩ | ⟨v, h', h1, h2⟩
        · exact .inl ⟨_, .call hg hop hv h1 h2 (.inl rfl), h3⟩
        · exact .inr ⟨v, h', .call hg hop hv h1, h2⟩
    · rename_i f args hop
      rw [kval_eq] at h
      cases hf : s.view.val f with
      | none => rw [hf] at h; cases h
      | some fv =>
        rw [hf, oe_some, kvals_eq] at h
        cases hv : valAll s.view args with
        | none => rw [hv] at h; cases h
        | some vs =>
          rw [hv, oe_some] at h
          split at h
          · rcases hret h with ⟨v, h', h1, h2, h3⟩ | ⟨v, h', h1, h2⟩
            · exact .inl ⟨_, .callv hg hop hf hv h1 h2 (.inl rfl), h3⟩
            · exact .inr ⟨v, h', .callv hg hop hf hv h1, h2⟩
          · cases h
    · rename_i y hop
      rw [kval_eq] at h
      cases hf : s.view.val y with
      | none => rw [hf] at h; cases h
      | some fv =>
        rw [hf, oe_some] at h
        split at h
        · exact .inr ⟨_, _, .panic hg hop hf, h⟩
        · cases h
    · rw [kop_eq] at h
      cases he : aop o.d o.op s.view with
      | none => rw [he] at h; cases h
      | some e =>
        rw [he] at h
        exact .inl ⟨e, .op hg he, h⟩
noncomputable def kops (c : CallF) (l : List AOper) : AS → KR := List.rec (motive := fun _ => AS → KR) (fun s => some (.norm, s))
  (fun o _ ih s => kstp c o s (fun e => kapply s o.d e ih) fun v h => some (.panic v, { s with hp := h })) l
theorem kops_sound {c : CallF} {Q : AR → AS → Prop} : ∀ {l : List AOper} {s : AS} {r : AR} {s' : AS}, kops c l s = some (r, s') → Q r s' → awpOps c.rel l s Q
  | [], s, r, s', h, q => by cases h; exact q
  | o :: l, s, r, s', h, q => by
    rcases kstp_spec (show kstp c o s (fun e => kapply s o.d e (kops c l)) (fun v h => some (.panic v, { s with hp := h })) = some (r, s') from h) with ⟨e, h1, h2⟩ | ⟨v, h', h1, h2⟩
    · rw [kapply_eq] at h2
      exact awpOps_stp h1 (kops_sound h2 q)
    · cases h2
      exact awpOps_pan h1 q
def memfreeB (x y : Ent) : Bool := disj x.f.wb y.f.wb && disj x.f.wb y.f.rb && disj x.f.rb y.f.wb && calmB x y && calmB y x
def memOfB (anc : List Nat) (y : Ent) : List (Nat × Ent) → Bool
  | [] => true
  | (i, x) :: r => match anc.elem i with
    | true => memOfB anc y r
    | false => match memfreeB x y with
      | true => memOfB anc y r
      | false => false
theorem memOfB_spec {anc : List Nat} {y : Ent} : ∀ {tr : List (Nat × Ent)}, memOfB anc y tr = true → memOf anc y tr
  | [], h => trivial
  | (i, x) :: r, h => by
    simp only [memOfB] at h
    split at h
    · rename_i ha
      exact ⟨.inl ha, memOfB_spec h⟩
    · split at h
      · rename_i hb
        simp only [memfreeB, Bool.and_eq_true] at hb
        exact ⟨.inr ⟨hb.1.1.1.1, hb.1.1.1.2, hb.1.1.2, calmB_spec hb.1.2, calmB_spec hb.2⟩, memOfB_spec h⟩
      · cases h
noncomputable def kdraw (c : CallF) (l : List (AOper × List Nat)) : Nat → List (Nat × Ent) → List Nat → List Nat → AS → KR :=
  List.rec (motive := fun _ => Nat → List (Nat × Ent) → List Nat → List Nat → AS → KR) (fun _ _ _ _ s => some (.norm, s))
    (fun o l ih j tr ws bs s => match o.1.op.mem with
      | false => match guarded s.view o.1.g with
        | none => none
        | some false => kapply s o.1.d { v := .tup [] } fun s' => ih (j + 1) tr (ws ++ dtms o.1.d) bs s'
        | some true => kop o.1.d o.1.op s (fun e => match e.dw with
          | none => kapply s o.1.d e fun s' => ih (j + 1) tr (ws ++ (dtms o.1.d ++ keys e.tw)) bs s'
          | some _ => none) none
      | true => kstp c o.1 s (fun e => match e.dw, memOfB o.2 (ent o.1 s e) tr with
          | none, true => kapply s o.1.d e fun s' => ih (j + 1) (tr ++ [(j, ent o.1 s e)]) (ws ++ (dtms o.1.d ++ keys e.tw)) (bs ++ btms e.bw) s'
          | _, _ => none) fun v h' => match memOfB o.2 (ent o.1 s { v := .tup [], hw := some h' }) tr, allAfter j l with
            | true, true => some (.panic v, { s with tm := without ws s.tm, bx := without bs s.bx, hp := h' })
            | _, _ => none) l
theorem kdraw_sound {c : CallF} {Q : AR → AS → Prop} : ∀ {l : List (AOper × List Nat)} {j : Nat} {tr : List (Nat × Ent)} {ws bs : List Nat} {s : AS} {r : AR} {s' : AS}, kdraw c l j tr ws bs s = some (r, s') → Q r s' → drawQ c.rel l j tr ws bs s Q
  | [], j, tr, ws, bs, s, r, s', h, q => by cases h; exact q
  | (o, anc) :: l, j, tr, ws, bs, s, r, s', h, q => by
    have h : (match o.op.mem with
      | false => match guarded s.view o.g with
        | none => none
        | some false => kapply s o.d { v := .tup [] } fun s' => kdraw c l (j + 1) tr (ws ++ dtms o.d) bs s'
        | some true => kop o.d o.op s (fun e => match e.dw with
          | none => kapply s o.d e fun s' => kdraw c l (j + 1) tr (ws ++ (dtms o.d ++ keys e.tw)) bs s'
          | some _ => none) none
      | true => kstp c o s (fun e => match e.dw, memOfB anc (ent o s e) tr with
          | none, true => kapply s o.d e fun s' => kdraw c l (j + 1) (tr ++ [(j, ent o s e)]) (ws ++ (dtms o.d ++ keys e.tw)) (bs ++ btms e.bw) s'
          | _, _ => none) fun v h' => match memOfB anc (ent o s { v := .tup [], hw := some h' }) tr, allAfter j l with
            | true, true => some (.panic v, { s with tm := without ws s.tm, bx := without bs s.bx, hp := h' })
            | _, _ => none) = some (r, s') := h
    simp only [drawQ]
    split at h
    · rename_i hm
      rw [hm]
      simp only
      split at h
      · cases h
      · rename_i hg
        rw [hg]
        rw [kapply_eq] at h
        exact kdraw_sound h q
      · rename_i hg
        rw [hg]
        rw [kop_eq] at h
        cases he : aop o.d o.op s.view with
        | none => rw [he] at h; cases h
        | some e =>
          rw [he, oe_some] at h
          split at h
          · rename_i hd
            rw [kapply_eq] at h
            exact ⟨e, rfl, hd, kdraw_sound h q⟩
          · cases h
    · rename_i hm
      rw [hm]
      simp only
      rcases kstp_spec h with ⟨e, h1, h2⟩ | ⟨v, h', h1, h2⟩
      · split at h2
        · rename_i hd hb
          rw [kapply_eq] at h2
          exact .inl ⟨e, h1, hd, memOfB_spec hb, kdraw_sound h2 q⟩
        · cases h2
      · split at h2
        · rename_i hb ha
          cases h2
          exact .inr ⟨v, h', h1, memOfB_spec hb, ha, q⟩
        · cases h2
noncomputable def kseq (r : KR) (f : AS → KR) : KR := match r with
  | some (.norm, s) => f s
  | r => r
noncomputable def konly {α β : Type} (l : List (Nat × α)) (ks : List Nat) (κ : List (Nat × α) → β) : β :=
  List.rec (motive := fun _ => (List (Nat × α) → β) → β) (fun κ => κ []) (fun k _ ih κ => klook l k (fun v => ih fun l => κ ((k, v) :: l)) (ih κ)) ks κ
theorem konly_eq {α β : Type} (l : List (Nat × α)) : ∀ (ks : List Nat) (κ : List (Nat × α) → β), konly l ks κ = κ (only l ks)
  | [], κ => rfl
  | k :: ks, κ => by
    show klook l k (fun v => konly l ks fun l => κ ((k, v) :: l)) (konly l ks κ) = _
    simp only [klook_eq, konly_eq l ks, only]
    cases look l k <;> rfl
noncomputable def kkeep (ks bs : List Nat) (r : KR) : KR := kseq r fun s => konly s.tm ks fun tm => konly s.bx bs fun bx => some (.norm, ⟨s.dep, tm, bx, s.hp, s.df⟩)
noncomputable def kblk (id : Nat) (r : KR) : KR := match r with
  | some (.exit id', s1) => match Nat.beq id' id with
    | true => some (.norm, s1)
    | false => some (.exit id', s1)
  | r => r
noncomputable def kcond (x : X) (f g : AS → KR) (s : AS) : KR := kx s.tm x (fun v => match v with
  | .bool b => Bool.rec (motive := fun _ => KR) (g s) (f s) b
  | _ => none) none
noncomputable def kiter (f : AS → KR) (n : Nat) : AS → KR := Nat.rec (motive := fun _ => AS → KR) (fun _ => none) (fun _ ih s => kseq (f s) ih) n
noncomputable def kev (c : CallF) (N : Nat) (a : AC) : AS → KR := AC.rec (motive := fun _ => AS → KR)
  (fun s => some (.norm, s)) (fun l => kops c l) (fun l s => Bool.rec (motive := fun _ => KR) none (kdraw c l 0 [] [] [] s) (statOK s.dep [] l)) (fun _ _ f g s => kseq (f s) g) (fun x _ _ f g => kcond x f g)
  (fun id _ f s => kblk id (f s)) (fun _ f => kiter f N) (fun id s => some (.exit id, s)) (fun s => some (.ret, s)) (fun ks bs _ f s => kkeep ks bs (f s)) (fun _ => none) a
theorem kseq_spec {r : KR} {f : AS → KR} {x : AR × AS} (h : kseq r f = some x) : (∃ s, r = some (.norm, s) ∧ f s = some x) ∨ (r = some x ∧ x.1 ≠ .norm) := by
  unfold kseq at h
  split at h
  · exact .inl ⟨_, rfl, h⟩
  · rename_i hn
    refine .inr ⟨h, fun e => ?_⟩
    obtain ⟨r, s⟩ := x
    simp only at e
    subst e
    exact hn s h
theorem kev_sound {c : CallF} {N : Nat} : ∀ (a : AC) {Q : AR → AS → Prop} {s : AS} {r : AR} {s' : AS}, kev c N a s = some (r, s') → Q r s' → awp c.rel a s Q := by
  intro a
  induction a with
  | skip => intro Q s r s' h q; cases h; exact q
  | ops l => intro Q s r s' h q; exact kops_sound h q
  | draw l =>
    intro Q s r s' h q
    have h : @Bool.rec (fun _ => KR) none (kdraw c l 0 [] [] [] s) (statOK s.dep [] l) = some (r, s') := h
    cases hs : statOK s.dep [] l with
    | false => rw [hs] at h; cases h
    | true =>
      rw [hs] at h
      exact awp_draw hs (kdraw_sound h q)
  | seq a b iha ihb =>
    intro Q s r s' h q
    rcases kseq_spec (show kseq (kev c N a s) (kev c N b) = some (r, s') from h) with ⟨s1, h1, h2⟩ | ⟨h1, h2⟩
    · exact iha h1 ⟨_, Weak.refl _, ihb h2 q⟩
    · refine iha h1 ?_
      cases r with
      | norm => exact absurd rfl h2
      | _ => exact q
  | cond x a b iha ihb =>
    intro Q s r s' h q
    have h : kcond x (kev c N a) (kev c N b) s = some (r, s') := h
    simp only [kcond, kx_eq] at h
    simp only [awp]
    cases hx : s.view.ev x with
    | none => rw [hx] at h; cases h
    | some v =>
      rw [hx, oe_some] at h
      cases v with
      | bool b =>
        cases b with
        | true => exact iha h q
        | false => exact ihb h q
      | _ => cases h
  | blk id a iha =>
    intro Q s r s' h q
    have h : kblk id (kev c N a s) = some (r, s') := h
    unfold kblk at h
    split at h
    · rename_i id' s1 h1
      refine iha h1 ?_
      split at h
      · rename_i hq
        cases h
        have := nbeq hq
        simp only [this]
        exact q
      · rename_i hq
        cases h
        have : ¬ id' = id := fun e => by subst e; simp [Nat.beq_refl] at hq
        simp only [this]
        exact q
    · rename_i h1
      refine iha h ?_
      cases r with
      | exit id' => exact absurd h (h1 _ _)
      | _ => exact q
  | loop a iha =>
    intro Q s r s' h q
    have key : ∀ n s, kiter (kev c N a) n s = some (r, s') → loopW (fun s Q => ∃ s2, Weak s s2 ∧ awp c.rel a s2 Q) n s Q := by
      intro n
      induction n with
      | zero => intro s h; cases h
      | succ n ih =>
        intro s h
        refine ⟨s, Weak.refl _, ?_⟩
        rcases kseq_spec (show kseq (kev c N a s) (kiter (kev c N a) n) = some (r, s') from h) with ⟨s1, h1, h2⟩ | ⟨h1, h2⟩
        · exact iha h1 (ih s1 h2)
        · refine iha h1 ?_
          cases r with
          | norm => exact absurd rfl h2
          | _ => exact q
    exact ⟨N, key N s h⟩
  | exit id => intro Q s r s' h q; cases h; exact q
  | ret => intro Q s r s' h q; cases h; exact q
  | keep ks bs a iha =>
    intro Q s r s' h q
    have h : kkeep ks bs (kev c N a s) = some (r, s') := h
    unfold kkeep at h
    simp only [konly_eq] at h
    rcases kseq_spec h with ⟨s1, h1, h2⟩ | ⟨h1, h2⟩
    · cases h2
      exact iha h1 q
    · refine iha h1 ?_
      cases r with
      | norm => exact absurd rfl h2
      | _ => exact q
  | bad => intro Q s r s' h q; cases h
noncomputable def kD (c : CallF) (N : Nat) (body : AC) (m : AMode) (s : AS) (res : List ARes) : Option (AMode × List HObj) :=
  match body with
  | .seq (.ops ({ d := some d, g := none, op := .recov } :: l)) b => match kops c l { s with tm := put s.tm d m.val } with
    | some (.norm, s1) => evFinD res .ret (kev c N b s1)
    | r => evFinD res .ret r
  | body => evFinD res m (kev c N body s)
theorem kD_sound {c : CallF} {N : Nat} {body : AC} {m m' : AMode} {s : AS} {res : List ARes} {h1 : List HObj} (h : kD c N body m s res = some (m', h1)) : awpD c.rel body m s (finD res m' h1) := by
  unfold kD at h
  unfold awpD
  split at h
  · rename_i d l b
    simp only
    cases he : kops c l { s with tm := put s.tm d m.val } with
    | none => rw [he] at h; cases h
    | some p =>
      obtain ⟨r, s1⟩ := p
      rw [he] at h
      refine kops_sound he ?_
      cases r with
      | norm =>
        simp only at h ⊢
        cases hb : kev c N b s1 with
        | none => rw [hb] at h; cases h
        | some p2 =>
          obtain ⟨r2, s2⟩ := p2
          rw [hb] at h
          exact kev_sound b hb (evFinD_sound h)
      | exit id => exact evFinD_sound h
      | ret => exact evFinD_sound h
      | panic v => exact evFinD_sound h
  · rename_i hne
    split
    · rename_i d l b
      exact absurd rfl (hne d l b)
    · cases hb : kev c N body s with
      | none => rw [hb] at h; cases h
      | some p2 =>
        obtain ⟨r2, s2⟩ := p2
        rw [hb] at h
        exact kev_sound body hb (evFinD_sound h)
/-- A table, as a tree. -/
inductive Tree where
  | leaf
  | node (l : Tree) (k : Nat) (F : AFun) (r : Tree)
noncomputable def Tree.at (t : Tree) (n : Nat) : Option AFun := Tree.rec (motive := fun _ => Option AFun) none (fun _ k F _ a b => Bool.rec (motive := fun _ => Option AFun) (Bool.rec (motive := fun _ => Option AFun) b a (Nat.blt n k)) (some F) (Nat.beq n k)) t
noncomputable def fEnd (r : Option (AEnd × List HObj)) : Option (AEnd × List HObj) := Option.casesOn (motive := fun _ => Option (AEnd × List HObj)) r none fun r => AEnd.casesOn (motive := fun _ => Option (AEnd × List HObj)) r.1 (fun v => fv 2 v fun v => some (.ret v, r.2)) (fun v => fv 2 v fun v => some (.panic v, r.2))
theorem fEnd_eq (r : Option (AEnd × List HObj)) : fEnd r = r := by
  cases r with
  | none => rfl
  | some r =>
    obtain ⟨r, h⟩ := r
    cases r with
    | ret v => exact fv_eq 2 v (fun v => some (AEnd.ret v, h))
    | panic v => exact fv_eq 2 v (fun v => some (AEnd.panic v, h))
noncomputable def kF2 (T : Tree) (N : Nat) (c : CallF) : CallF := fun f vs h => Option.casesOn (motive := fun _ => Option (AEnd × List HObj)) (T.at f) none fun F => Bool.rec (motive := fun _ => Option (AEnd × List HObj)) none
  (fEnd (evFin (fun g ws m h => match T.at g with
          | some G => match Nat.beq ws.length G.np with
            | true => kD c N G.body m (G.init ws h) G.res
            | false => none
          | none => none) F.res (kev c N F.body (F.init vs h)))) (Nat.beq vs.length F.np)
noncomputable def kF1 (T : Tree) (N : Nat) (c : CallF) (X : CallF) : CallF := fun f vs h => Option.casesOn (motive := fun _ => Option (AEnd × List HObj)) (X f vs h) (kF2 T N c f vs h) some
noncomputable def kF (T : Tree) (X : CallF) (N : Nat) (n : Nat) : CallF := Nat.rec (motive := fun _ => CallF) X (fun _ ih => kF1 T N ih X) n
def Tree.all (p : Nat → AFun → Prop) : Tree → Prop
  | .leaf => True
  | .node l k F r => l.all p ∧ p k F ∧ r.all p
theorem Tree.all_at {p : Nat → AFun → Prop} : ∀ {t : Tree}, t.all p → ∀ n F, t.at n = some F → p n F
  | .leaf, h, n, F, e => by cases e
  | .node l k G r, h, n, F, e => by
    have e : @Bool.rec (fun _ => Option AFun) (@Bool.rec (fun _ => Option AFun) (r.at n) (l.at n) (Nat.blt n k)) (some G) (Nat.beq n k) = some F := e
    cases hk : Nat.beq n k with
    | true =>
      rw [hk] at e
      cases e
      rw [nbeq hk]
      exact h.2.1
    | false =>
      rw [hk] at e
      cases hb : Nat.blt n k with
      | true => rw [hb] at e; exact all_at h.1 n F e
      | false => rw [hb] at e; exact all_at h.2.2 n F e
theorem kF_sound {P : Program} {T : Tree} {X : CallF} {N : Nat} (hT : T.all (FnOK P)) (hX : ∀ f vs h e h', X f vs h = some (e, h') → CallS P f vs h e h') :
    ∀ (n : Nat) (f : FuncId) (vs : List AV) (h : List HObj) (e : AEnd) (h' : List HObj), kF T X N n f vs h = some (e, h') → CallS P f vs h e h' := by
  intro n
  induction n with
  | zero => exact hX
  | succ n ih =>
    intro f vs h e h' hev
    have hev : kF1 T N (kF T X N n) X f vs h = some (e, h') := hev
    unfold kF1 at hev
    cases hXf : X f vs h with
    | some r =>
      rw [hXf] at hev
      cases hev
      exact hX f vs h e h' hXf
    | none =>
    rw [hXf] at hev
    replace hev : kF2 T N (kF T X N n) f vs h = some (e, h') := hev
    unfold kF2 at hev
    cases hF : T.at f with
    | none => rw [hF] at hev; cases hev
    | some F =>
      rw [hF] at hev
      simp only at hev
      cases hlen : Nat.beq vs.length F.np with
      | false => rw [hlen] at hev; cases hev
      | true =>
        rw [hlen] at hev
        simp only [fEnd_eq] at hev
        refine fun_sound (C := (kF T X N n).rel) (D := CallDF.rel fun g ws m h => match T.at g with
          | some G => match Nat.beq ws.length G.np with
            | true => kD (kF T X N n) N G.body m (G.init ws h) G.res
            | false => none
          | none => none) ih (fun g ws m h m' h1 hd => ?_) (Tree.all_at hT f F hF) (nbeq hlen) ?_
        · simp only [CallDF.rel] at hd
          split at hd
          · rename_i G hG
            split at hd
            · rename_i hlen2
              exact funD_sound (C := (kF T X N n).rel) ih (Tree.all_at hT g G hG) (nbeq hlen2) (kD_sound hd)
            · cases hd
          · cases hd
        · cases hb : kev (kF T X N n) N F.body (F.init vs h) with
          | none => rw [hb] at hev; cases hev
          | some p =>
            obtain ⟨r, s⟩ := p
            rw [hb] at hev
            refine kev_sound F.body hb ?_
            cases r with
            | norm => exact evLeave_sound hev
            | exit id => cases hev
            | ret => exact evLeave_sound hev
            | panic v => exact evLeave_sound hev
/-- Calls that are known. -/
structure KC where
  f : FuncId
  vs : List AV
  h : List HObj
  e : AEnd
  h' : List HObj
def HObj.beq : HObj → HObj → Bool
  | .obj a, .obj b => AV.beqs a b
  | .dead, .dead => true
  | _, _ => false
theorem HObj.beq_spec : ∀ {a b : HObj}, HObj.beq a b = true → a = b
  | .obj a, .obj b, h => by rw [AV.beqs_spec (show AV.beqs a b = true from h)]
  | .dead, .dead, h => rfl
  | .obj _, .dead, h => by cases h
  | .obj _, .map _, h => by cases h
  | .dead, .obj _, h => by cases h
  | .dead, .map _, h => by cases h
  | .map _, _, h => by cases h
def hbeq : List HObj → List HObj → Bool
  | [], [] => true
  | a :: l, b :: m => match HObj.beq a b with
    | true => hbeq l m
    | false => false
  | _, _ => false
theorem hbeq_spec : ∀ {l m : List HObj}, hbeq l m = true → l = m
  | [], [], _ => rfl
  | a :: l, b :: m, h => by
    simp only [hbeq] at h
    split at h
    · rename_i h1
      rw [HObj.beq_spec h1, hbeq_spec h]
    · cases h
  | [], _ :: _, h => by cases h
  | _ :: _, [], h => by cases h
def kX : List KC → CallF
  | [], _, _, _ => none
  | k :: l, f, vs, h => match Nat.beq k.f f with
    | true => match AV.beqs k.vs vs with
      | true => match hbeq k.h h with
        | true => some (k.e, k.h')
        | false => kX l f vs h
      | false => kX l f vs h
    | false => kX l f vs h
def KC.ok (P : Program) (k : KC) : Prop := CallS P k.f k.vs k.h k.e k.h'
def allOK (P : Program) : List KC → Prop
  | [] => True
  | k :: l => k.ok P ∧ allOK P l
theorem kX_ok {P : Program} : ∀ {l : List KC}, allOK P l → ∀ f vs h e h', kX l f vs h = some (e, h') → CallS P f vs h e h'
  | [], _, f, vs, h, e, h', k => by cases k
  | k :: l, ho, f, vs, h, e, h', q => by
    simp only [kX] at q
    split at q
    · rename_i h1
      split at q
      · rename_i h2
        split at q
        · rename_i h3
          cases q
          have := ho.1
          unfold KC.ok at this
          rw [nbeq h1, AV.beqs_spec h2, hbeq_spec h3] at this
          exact this
        · exact kX_ok ho.2 f vs h e h' q
      · exact kX_ok ho.2 f vs h e h' q
    · exact kX_ok ho.2 f vs h e h' q
theorem KC.mk_ok {P : Program} {T : Tree} (hT : T.all (FnOK P)) {l : List KC} (hl : allOK P l) (N n : Nat) (k : KC) (h : kF T (kX l) N n k.f k.vs k.h = some (k.e, k.h')) : k.ok P :=
  kF_sound hT (kX_ok hl) n k.f k.vs k.h k.e k.h' h
end Go.Am

set_option linter.unusedSimpArgs false
set_option linter.unusedVariables false
open Go.RowKit
namespace Go.Am

/-! ### 29. A call that needs nothing of the heap leaves the heap -/
mutual
/-- Nothing of the heap is in it. -/
def AV.nh : AV → Bool
  | .hptr _ _ => false
  | .hsl _ _ _ _ => false
  | .map _ => false
  | .fptr e _ => AV.nh e
  | .sl _ l => AV.nhs l
  | .xsl _ l => AV.nhs l
  | .agg l => AV.nhs l
  | .tup l => AV.nhs l
  | .iface _ v => AV.nh v
  | .fn _ l => AV.nhs l
  | _ => true
def AV.nhs : List AV → Bool
  | [] => true
  | v :: l => AV.nh v && AV.nhs l
end
theorem nhs_get {l : List AV} (h : AV.nhs l = true) {i : Nat} {v : AV} (hv : l[i]? = some v) : v.nh = true := by
  induction l generalizing i with
  | nil => simp at hv
  | cons a l ih =>
    simp only [AV.nhs, Bool.and_eq_true] at h
    cases i with
    | zero => simp at hv; subst hv; exact h.1
    | succ i => exact ih h.2 (by simpa using hv)
theorem nh_cells {v : AV} (h : v.nh = true) {i : Nat} {c : AV} (hc : v.cells[i]? = some c) : c.nh = true := by
  cases v <;> first
    | exact nhs_get (show AV.nhs _ = true from h) hc
    | (simp only [AV.cells] at hc; cases i with
       | zero => simp at hc; subst hc; exact h
       | succ i => simp at hc)
structure Claims (γ γ' : Gh) : Prop where
  claim : ∀ b j, γ.own b j = .claim → γ'.own b j = .claim
theorem Rel.free {γ γ' : Gh} {w : World} (m : Claims γ γ') {v : AV} {c : Value} (h : Rel γ w v c) (hn : v.nh = true) : Rel γ' w v c := by
  induction h with
  | int k n => exact .int k n
  | bool b => exact .bool b
  | str s => exact .str s
  | nilptr => exact .nilptr
  | nilif => exact .nilif
  | nilfn => exact .nilfn
  | nsl => exact .nsl
  | hptr id pos h => cases hn
  | map id h => cases hn
  | hsl id sz lo len cap arr ty h hb hc hl hm => cases hn
  | fptr e off b o vs hc _ h1 ih =>
    refine .fptr e off b o vs (fun j c hj => ?_) (fun j c hj => ih j c hj (nh_cells (show e.nh = true from hn) hj)) h1
    obtain ⟨h1, h2⟩ := hc j c hj
    exact ⟨h1, m.claim _ _ h2⟩
  | sl sz l a cap vs hz ha hnn _ h1 hl hm ih =>
    refine .sl sz l a cap vs hz (fun hne => ?_) hnn (fun i e j c hi hj => ih i e j c hi hj (nh_cells (nhs_get (show AV.nhs l = true from hn) hi) hj)) h1 hl hm
    obtain ⟨b, o, e, hc⟩ := ha hne
    refine ⟨b, o, e, fun i el j c hi hj => ?_⟩
    obtain ⟨h1, h2⟩ := hc i el j c hi hj
    exact ⟨h1, m.claim _ _ h2⟩
  | agg cs arr hz _ h1 ih => exact .agg cs arr hz (fun j c v hc hv => ih j c v hc hv (nhs_get (show AV.nhs cs = true from hn) hc)) h1
  | iface t v c _ ih => exact .iface t v c (ih hn)
  | fn f cs arr hz _ ih => exact .fn f cs arr hz (fun j c v hc hv => ih j c v hc hv (nhs_get (show AV.nhs cs = true from hn) hc))
theorem RelX.free {γ γ' : Gh} {w : World} (m : Claims γ γ') {o : Owner} (ho : ∀ b j, γ.own b j = o → γ'.own b j = o) {v : AV} {c : Value} (h : RelX γ w o v c) (hn : v.nh = true) : RelX γ' w o v c := by
  cases v with
  | xsl sz l =>
    refine ⟨h.1.free m hn, ?_⟩
    rcases h.2 with h | ⟨b, cap, arr, ty, h1, h2, h3, h0, h4⟩
    · exact .inl h
    · exact .inr ⟨b, cap, arr, ty, h1, h2, h3, h0, fun j h7 h8 => ho _ _ (h4 j h7 h8)⟩
  | _ => exact Rel.free m h hn
theorem RelC.free {γ γ' : Gh} {w : World} (m : Claims γ γ') {o : Nat → Owner} (ho : ∀ k b j, γ.own b j = o k → γ'.own b j = o k) {v : AV} {c : Value} (h : RelC γ w o v c) (hn : v.nh = true) : RelC γ' w o v c := by
  cases v with
  | agg cs =>
    obtain ⟨arr, h1, h2, h3, h4⟩ := h
    exact ⟨arr, h1, h2, fun k a v ha hv => (h3 k a v ha hv).free m (ho k) (nhs_get (show AV.nhs cs = true from hn) ha), h4⟩
  | _ => exact RelX.c rfl (RelX.free m (ho 0) (RelC.x rfl h) hn)
theorem RelT.free {γ γ' : Gh} {w : World} (m : Claims γ γ') {o : Nat → Nat → Owner} (ho : ∀ i k b j, γ.own b j = o i k → γ'.own b j = o i k) {v : AV} {c : Value} (h : RelT γ w o v c) (hn : v.nh = true) (hv : ∀ b off, v ≠ .lptr b off) : RelT γ' w o v c := by
  cases v with
  | tup vs =>
    obtain ⟨arr, h1, h2, h3⟩ := h
    exact ⟨arr, h1, h2, fun i a v ha hv => (h3 i a v ha hv).free m (ho i) (nhs_get (show AV.nhs vs = true from hn) ha)⟩
  | lptr b off => exact absurd rfl (hv b off)
  | undef => trivial
  | _ => exact RelC.t rfl (RelC.free m (ho 0) (RelT.c rfl h) hn)
def noHp : Owner → Owner
  | .obj _ => .foreign
  | .sp (.hp _ _) => .foreign
  | o => o
def bkHp : Owner → Owner
  | .obj _ => .dead
  | .sp (.hp _ _) => .dead
  | o => o
def AEnd.nh : AEnd → Bool
  | .ret v => v.nh && (match v with | .lptr _ _ => false | _ => true)
  | .panic v => v.nh
/-- No maps. -/
def plain (h : List HObj) : Bool := h.all fun | .map _ => false | _ => true
theorem CallS.frame {P : Program} {f : FuncId} {vs : List AV} {e : AEnd} {h1 : List HObj} (hC : CallS P f vs [] e h1) (hvs : AV.nhs vs = true) (he : e.nh = true) {h : List HObj} (hp : plain h = true) : CallS P f vs h e h := by
  refine ⟨hC.1, fun γ w args k hr => ?_⟩
  let γ0 : Gh := { γ with own := fun b j => noHp (γ.own b j), nh := 0 }
  have k0 : WR γ0 w [] := by
    refine ⟨k.below, k.base, fun b j hb => ?_, fun b j hb => ?_, rfl, fun id o ho => by simp at ho⟩
    · show noHp (γ.own b j) = _
      rw [k.ownb b j hb]; rfl
    · show noHp (γ.own b j) = _
      rw [k.fresh b j hb]; rfl
  have m0 : Claims γ γ0 := ⟨fun b j h => by show noHp (γ.own b j) = _; rw [h]; rfl⟩
  have hr0 : RelAll γ0 w vs args := ⟨hr.1, fun i v c hv hc => (hr.2 i v c hv hc).free m0 (nhs_get hvs hv)⟩
  refine (hC.2 γ0 w args k0 hr0).mono fun en w1 ⟨γ1, K, k1, hen⟩ => ?_
  let own2 : Nat → Nat → Owner := fun b j => if γ1.own b j = .foreign then γ.own b j else bkHp (γ1.own b j)
  let γ2 : Gh := { γ1 with own := own2, nh := γ.nh, blk := γ.blk }
  have hkeep : ∀ b j o, γ1.own b j = o → o ≠ .foreign → bkHp o = o → γ2.own b j = o := by
    intro b j o h1 h2 h3
    show (if γ1.own b j = .foreign then γ.own b j else bkHp (γ1.own b j)) = o
    rw [if_neg (by rw [h1]; exact h2), h1, h3]
  have hfor : ∀ b j, noHp (γ.own b j) = .foreign → γ2.own b j = γ.own b j ∧ w1.cell? ⟨b, j, none⟩ = w.cell? ⟨b, j, none⟩ := by
    intro b j h
    obtain ⟨h1, h2⟩ := K.foreign b j h
    refine ⟨?_, h2⟩
    show (if γ1.own b j = .foreign then γ.own b j else bkHp (γ1.own b j)) = _
    rw [if_pos h1]
  have m12 : Claims γ1 γ2 := ⟨fun b j h => hkeep b j _ h (by simp) rfl⟩
  have M : Mono γ w γ2 w1 := by
    refine ⟨fun b j h => ?_, K.shape, fun _ _ => rfl, Nat.le_refl _⟩
    obtain ⟨h1, h2⟩ := K.claim b j (m0.claim b j h)
    exact ⟨m12.claim b j h1, h2⟩
  refine ⟨γ2, ⟨⟨M, fun b j h => ?_, K.n0, K.w0, K.size⟩, fun b j h => ?_, K.bxb⟩, ⟨k1.below, k1.base, fun b j hb => m12.claim b j (k1.ownb b j hb), fun b j hb => hkeep b j _ (k1.fresh b j hb) (by simp) rfl, k.nh, fun id o ho => ?_⟩, ?_⟩
  · obtain ⟨h1, h2⟩ := hfor b j (by rw [h]; rfl)
    exact ⟨h1.trans h, h2⟩
  · have hn : noHp (γ.own b j) = γ.own b j := by
      cases hq : γ.own b j with
      | sp l => cases l <;> first | rfl | (rw [hq] at h; cases h)
      | obj id => rw [hq] at h; cases h
      | _ => rfl
    have hf : (γ0.own b j).framed = true := by show (noHp (γ.own b j)).framed = true; rw [hn]; exact h
    obtain ⟨h1, h2⟩ := K.frame b j hf
    refine ⟨?_, h2⟩
    have h3 : γ1.own b j = γ.own b j := h1.trans hn
    refine hkeep b j _ h3 (fun e => by rw [e] at h; cases h) ?_
    cases hq : γ.own b j with
    | sp l => cases l <;> first | rfl | (rw [hq] at h; cases h)
    | obj id => rw [hq] at h; cases h
    | _ => rfl
  · have hh := k.hp id o ho
    cases o with
    | dead => trivial
    | map es =>
      have := List.all_eq_true.1 hp _ (List.mem_of_getElem? ho)
      cases this
    | obj cs =>
      obtain ⟨arr, ty, h1, h2, h3, h4, h5, h6⟩ := hh
      obtain ⟨arr', h7, h8⟩ := K.shape _ arr ty _ h1
      have hf : ∀ j, noHp (γ.own (γ.blk id) j) = .foreign := fun j => by rw [h5]; rfl
      have e : arr' = arr := by
        refine Array.ext h8 fun j hj hj' => ?_
        have := (hfor (γ.blk id) j (hf j)).2
        simp only [World.cell?, h7, h1] at this
        simpa [Array.getElem?_eq_getElem hj, Array.getElem?_eq_getElem hj'] using this
      subst e
      refine ⟨arr', ty, h7, h2, fun i c v hc hv => (h3 i c v hc hv).mono M fun b j hb => ?_, h4, fun j => ((hfor _ j (hf j)).1).trans (h5 j), ?_⟩
      · exact ((hfor b j (by rw [hb]; rfl)).1).trans hb
      · rw [show γ2.n0 = γ.n0 from K.n0]
        exact h6
  · cases e with
    | ret v =>
      simp only [AEnd.nh, Bool.and_eq_true] at he
      cases en with
      | returned c =>
        refine RelT.free m12 (fun i k b j hb => hkeep b j _ hb (by simp) rfl) hen he.1 fun b off e => ?_
        subst e
        cases he.2
      | _ => exact hen.elim
    | panic v =>
      cases en with
      | panicked ch =>
        obtain ⟨c, h1, h2⟩ := hen
        exact ⟨c, h1, h2.free m12 he⟩
      | _ => exact hen.elim

/-! ### 30. Less is told -/
def LeR (v v' : AV) : Prop := ∀ (γ : Gh) (w : World) (c : Value), Rel γ w v c → Rel γ w v' c
def LeT (v v' : AV) : Prop := ∀ (γ : Gh) (w : World) (c : Value), RelT γ w retL v c → RelT γ w retL v' c
theorem LeR.refl (v : AV) : LeR v v := fun _ _ _ h => h
theorem LeT.refl (v : AV) : LeT v v := fun _ _ _ h => h
theorem LeR.trans {a b c : AV} (h : LeR a b) (k : LeR b c) : LeR a c := fun γ w v q => k γ w v (h γ w v q)
theorem rel_sl_nil (γ : Gh) (w : World) (sz : Nat) : Rel γ w (.sl sz []) (.slice none 0 0) :=
  .sl sz [] none 0 (fun _ _ => .int .i64 0) (fun i e h => by simp at h) (fun h => absurd rfl h) (fun _ => rfl) (fun i e j c h => by simp at h) (fun i e j c h => by simp at h) (Nat.le_refl _) (by simp)
theorem LeR.nil (sz : Nat) : LeR .nsl (.sl sz []) := fun γ w c h => by
  cases h
  exact rel_sl_nil γ w sz
theorem LeT.nil (sz : Nat) : LeT .nsl (.sl sz []) := fun γ w c h => by
  have h : Rel γ w .nsl c := h
  cases h
  exact (rel_sl_nil γ w sz).t
theorem LeT.nilx (sz : Nat) : LeT .nsl (.xsl sz []) := fun γ w c h => by
  have h : Rel γ w .nsl c := h
  cases h
  exact ⟨rel_sl_nil γ w sz, .inl rfl⟩
theorem LeT.sl (sz : Nat) (l : List AV) : LeT (.xsl sz l) (.sl sz l) := fun γ w c h => (show Rel γ w (.sl sz l) c from h.1).t
theorem LeR.t {v v' : AV} (h : LeR v v') (hv : v.dg = v) (hi : v.isV = true) : LeT v v' := fun γ w c k => by
  have := k.val (u := v) (by rw [hv]; simp [AV.chk, hi])
  exact (h γ w c this.2).t
inductive LeL : List AV → List AV → Prop
  | nil : LeL [] []
  | cons {a b : AV} {l m : List AV} (h : LeR a b) (k : LeL l m) : LeL (a :: l) (b :: m)
theorem LeL.refl : ∀ (l : List AV), LeL l l
  | [] => .nil
  | a :: l => .cons (LeR.refl a) (LeL.refl l)
theorem LeL.len {l m : List AV} (h : LeL l m) : l.length = m.length := by
  induction h with
  | nil => rfl
  | cons _ _ ih => simp [ih]
theorem LeL.get {l m : List AV} (h : LeL l m) : ∀ (i : Nat) (b : AV), m[i]? = some b → ∃ a, l[i]? = some a ∧ LeR a b := by
  induction h with
  | nil => intro i b hb; simp at hb
  | cons h _ ih =>
    intro i b hb
    cases i with
    | zero => simp at hb; subst hb; exact ⟨_, rfl, h⟩
    | succ i => exact ih i b (by simpa using hb)
theorem LeR.agg {l m : List AV} (h : LeL l m) (h1 : m.all AV.one = true) : LeR (.agg l) (.agg m) := fun γ w c k => by
  cases k with
  | agg _ arr hz hv _ =>
    refine .agg m arr (hz.trans h.len) (fun j b v hb hj => ?_) (fun j c hc => List.all_eq_true.1 h1 c (List.mem_of_getElem? hc))
    obtain ⟨a, ha, hab⟩ := h.get j b hb
    exact hab γ w v (hv j a v ha hj)
theorem CallS.weak {P : Program} {f : FuncId} {vs vs' : List AV} {h h' : List HObj} {u u' : AV} (hC : CallS P f vs' h (.ret u) h') (hv : LeL vs vs') (hu : LeT u u') : CallS P f vs h (.ret u') h' := by
  refine ⟨hC.1, fun γ w args k hr => ?_⟩
  have hr' : RelAll γ w vs' args := ⟨hr.1.trans hv.len, fun i b c hb hc => by
    obtain ⟨a, ha, hab⟩ := hv.get i b hb
    exact hab γ w c (hr.2 i a c ha hc)⟩
  refine (hC.2 γ w args k hr').mono fun en w1 ⟨γ1, K, k1, hen⟩ => ⟨γ1, K, k1, ?_⟩
  cases en with
  | returned c => exact hu γ1 w1 c hen
  | _ => exact hen.elim
theorem CallS.args {P : Program} {f : FuncId} {vs vs' : List AV} {h h' : List HObj} {e : AEnd} (hC : CallS P f vs' h e h') (hv : LeL vs vs') : CallS P f vs h e h' := by
  refine ⟨hC.1, fun γ w args k hr => ?_⟩
  have hr' : RelAll γ w vs' args := ⟨hr.1.trans hv.len, fun i b c hb hc => by
    obtain ⟨a, ha, hab⟩ := hv.get i b hb
    exact hab γ w c (hr.2 i a c ha hc)⟩
  exact hC.2 γ w args k hr'
end Go.Am

set_option linter.unusedSimpArgs false
set_option linter.unusedVariables false
open Go.RowKit
namespace Go.Am

/-! ### 31. Running by rewriting -/
def op {α : Type} (o : Option α) (κ : α → Prop) : Prop := match o with
  | some a => κ a
  | none => False
theorem op_some {α : Type} (a : α) (κ : α → Prop) : op (some a) κ = κ a := rfl
@[congr] theorem op_cg {α : Type} {o o' : Option α} {κ : α → Prop} (h : o = o') : op o κ = op o' κ := by rw [h]
theorem op_none {α : Type} (κ : α → Prop) : op (none : Option α) κ = False := rfl
theorem op_intro {α : Type} {o : Option α} {a : α} {κ : α → Prop} (h : o = some a) (k : κ a) : op o κ := by subst h; exact k
abbrev vw (dep : List (Nat × List Nat)) (tm : List (Nat × AV)) (bx : List (Nat × List AV)) (hp : List HObj) : View := { dep := dep, tm := look tm, bx := look bx, hp := hp }
section
variable {C : CallR} {d : Option Nat} {l : List AOper} {dep : List (Nat × List Nat)} {tm : List (Nat × AV)} {bx : List (Nat × List AV)} {hp : List HObj} {df : List (AV × List AV)} {Q : AR → AS → Prop}
theorem ev_t (n : Nat) : View.ev (vw dep tm bx hp) (.t n) = look tm n := rfl
theorem ev_c (v : AV) : View.ev (vw dep tm bx hp) (.c v) = some v := rfl
theorem ev_t' (n : Nat) : View.ev { dep := dep, tm := look tm, bx := look bx, hp := hp } (.t n) = look tm n := rfl
theorem ev_c' (v : AV) : View.ev { dep := dep, tm := look tm, bx := look bx, hp := hp } (.c v) = some v := rfl
theorem look_cons {α : Type} (k : Nat) (v : α) (l : List (Nat × α)) (j : Nat) : look ((k, v) :: l) j = if k = j then some v else look l j := by
  simp only [look]
  by_cases h : k = j
  · subst h; simp [Nat.beq_refl]
  · have : Nat.beq k j = false := by
      cases hb : Nat.beq k j
      · rfl
      · exact absurd (Nat.eq_of_beq_eq_true hb) h
    simp [this, h]
theorem look_nil {α : Type} (j : Nat) : look ([] : List (Nat × α)) j = none := rfl
theorem put_cons {α : Type} (k : Nat) (u v : α) (l : List (Nat × α)) (j : Nat) : put ((k, u) :: l) j v = if k = j then (k, v) :: l else (k, u) :: put l j v := by
  simp only [put]
  by_cases h : k = j
  · subst h; simp [Nat.beq_refl]
  · have : Nat.beq k j = false := by
      cases hb : Nat.beq k j
      · rfl
      · exact absurd (Nat.eq_of_beq_eq_true hb) h
    simp [this, h]
theorem put_nil {α : Type} (v : α) (j : Nat) : put ([] : List (Nat × α)) j v = [(j, v)] := rfl
theorem only_cons {α : Type} (l : List (Nat × α)) (k : Nat) (ks : List Nat) : only l (k :: ks) = match look l k with | some v => (k, v) :: only l ks | none => only l ks := rfl
theorem only_nil {α : Type} (l : List (Nat × α)) : only l [] = [] := rfl
theorem keep_mk (ks bs : List Nat) : AS.keep (AS.mk dep tm bx hp df) ks bs = AS.mk dep (only tm ks) (only bx bs) hp df := rfl
theorem W_nil {s : AS} : awpOps C [] s Q = Q .norm s := rfl
theorem W_mvf (x : X) : awpOps C (⟨d, none, .mv x false⟩ :: l) (AS.mk dep tm bx hp df) Q = op (View.ev (vw dep tm bx hp) x) fun v => okd dep d v.dg = true ∧ awpOps C l (AS.mk dep (putd tm d v.dg) bx hp df) Q := by
  show (match aop d (.mv x false) (vw dep tm bx hp) with | some e => awpOps C l (AS.apply (AS.mk dep tm bx hp df) d e) Q | none => False) = _
  simp only [aop, pop, View.cp, okv]
  cases View.ev (vw dep tm bx hp) x with
  | none => rfl
  | some v =>
    simp only [Option.map_some, op_some]
    cases okd dep d v.dg <;> simp [AS.apply, puts]
theorem W_mvt (x : X) : awpOps C (⟨d, none, .mv x true⟩ :: l) (AS.mk dep tm bx hp df) Q = op (View.ev (vw dep tm bx hp) x) fun v => okd dep d v = true ∧ awpOps C l (AS.mk dep (putd (puts tm (left x v)) d v) bx hp df) Q := by
  show (match aop d (.mv x true) (vw dep tm bx hp) with | some e => awpOps C l (AS.apply (AS.mk dep tm bx hp df) d e) Q | none => False) = _
  simp only [aop]
  cases View.ev (vw dep tm bx hp) x with
  | none => rfl
  | some v =>
    simp only [op_some]
    cases okd dep d v <;> simp [AS.apply]
theorem W_pop' {o : AOp} (ho : aop d o (vw dep tm bx hp) = match pop d o (vw dep tm bx hp) with | some v => some { v := v } | none => none) (hw : awpOps C (⟨d, none, o⟩ :: l) (AS.mk dep tm bx hp df) Q = match aop d o (vw dep tm bx hp) with | some e => awpOps C l (AS.apply (AS.mk dep tm bx hp df) d e) Q | none => False) :
    awpOps C (⟨d, none, o⟩ :: l) (AS.mk dep tm bx hp df) Q = op (pop d o (vw dep tm bx hp)) fun v => awpOps C l (AS.mk dep (putd tm d v) bx hp df) Q := by
  rw [hw, ho]
  cases pop d o (vw dep tm bx hp) <;> rfl
theorem W_pick (c : X) (a : X) (b : X) : awpOps C (⟨d, none, .pick c a b⟩ :: l) (AS.mk dep tm bx hp df) Q = op (pop d (.pick c a b) (vw dep tm bx hp)) fun v => awpOps C l (AS.mk dep (putd tm d v) bx hp df) Q := W_pop' rfl rfl
theorem W_build (z : List AV) (ps : List (Nat × Nat × X)) : awpOps C (⟨d, none, .build z ps⟩ :: l) (AS.mk dep tm bx hp df) Q = op (pop d (.build z ps) (vw dep tm bx hp)) fun v => awpOps C l (AS.mk dep (putd tm d v) bx hp df) Q := W_pop' rfl rfl
theorem W_nilchk (x : X) : awpOps C (⟨d, none, .nilchk x⟩ :: l) (AS.mk dep tm bx hp df) Q = op (pop d (.nilchk x) (vw dep tm bx hp)) fun v => awpOps C l (AS.mk dep (putd tm d v) bx hp df) Q := W_pop' rfl rfl
theorem W_bin (ty : BT) (o : BinOp) (x : X) (y : X) : awpOps C (⟨d, none, .bin ty o x y⟩ :: l) (AS.mk dep tm bx hp df) Q = op (pop d (.bin ty o x y) (vw dep tm bx hp)) fun v => awpOps C l (AS.mk dep (putd tm d v) bx hp df) Q := W_pop' rfl rfl
theorem W_eqst (ng : Bool) (fs : List (Nat × BT)) (x : X) (y : X) : awpOps C (⟨d, none, .eqst ng fs x y⟩ :: l) (AS.mk dep tm bx hp df) Q = op (pop d (.eqst ng fs x y) (vw dep tm bx hp)) fun v => awpOps C l (AS.mk dep (putd tm d v) bx hp df) Q := W_pop' rfl rfl
theorem W_un (o : UnOp) (x : X) : awpOps C (⟨d, none, .un o x⟩ :: l) (AS.mk dep tm bx hp df) Q = op (pop d (.un o x) (vw dep tm bx hp)) fun v => awpOps C l (AS.mk dep (putd tm d v) bx hp df) Q := W_pop' rfl rfl
theorem W_conv (k : IntKind) (x : X) : awpOps C (⟨d, none, .conv k x⟩ :: l) (AS.mk dep tm bx hp df) Q = op (pop d (.conv k x) (vw dep tm bx hp)) fun v => awpOps C l (AS.mk dep (putd tm d v) bx hp df) Q := W_pop' rfl rfl
theorem W_b2s (x : X) : awpOps C (⟨d, none, .b2s x⟩ :: l) (AS.mk dep tm bx hp df) Q = op (pop d (.b2s x) (vw dep tm bx hp)) fun v => awpOps C l (AS.mk dep (putd tm d v) bx hp df) Q := W_pop' rfl rfl
theorem W_mkif (t : TypeId) (x : X) : awpOps C (⟨d, none, .mkif t x⟩ :: l) (AS.mk dep tm bx hp df) Q = op (pop d (.mkif t x) (vw dep tm bx hp)) fun v => awpOps C l (AS.mk dep (putd tm d v) bx hp df) Q := W_pop' rfl rfl
theorem W_mkfn (f : FuncId) (cs : List X) : awpOps C (⟨d, none, .mkfn f cs⟩ :: l) (AS.mk dep tm bx hp df) Q = op (pop d (.mkfn f cs) (vw dep tm bx hp)) fun v => awpOps C l (AS.mk dep (putd tm d v) bx hp df) Q := W_pop' rfl rfl
theorem W_slcS (x : X) (lo : Option X) (hi : Option X) : awpOps C (⟨d, none, .slcS x lo hi⟩ :: l) (AS.mk dep tm bx hp df) Q = op (pop d (.slcS x lo hi) (vw dep tm bx hp)) fun v => awpOps C l (AS.mk dep (putd tm d v) bx hp df) Q := W_pop' rfl rfl
theorem W_slc (x : X) (lo : Option X) (hi : Option X) (sz : Nat) : awpOps C (⟨d, none, .slc x lo hi sz⟩ :: l) (AS.mk dep tm bx hp df) Q = op (pop d (.slc x lo hi sz) (vw dep tm bx hp)) fun v => awpOps C l (AS.mk dep (putd tm d v) bx hp df) Q := W_pop' rfl rfl
theorem W_faddr (x : X) (off : Nat) : awpOps C (⟨d, none, .faddr x off⟩ :: l) (AS.mk dep tm bx hp df) Q = op (pop d (.faddr x off) (vw dep tm bx hp)) fun v => awpOps C l (AS.mk dep (putd tm d v) bx hp df) Q := W_pop' rfl rfl
theorem W_fld (x : X) (off : Nat) (n : Nat) (ag : Bool) : awpOps C (⟨d, none, .fld x off n ag⟩ :: l) (AS.mk dep tm bx hp df) Q = op (pop d (.fld x off n ag) (vw dep tm bx hp)) fun v => awpOps C l (AS.mk dep (putd tm d v) bx hp df) Q := W_pop' rfl rfl
theorem W_iaddr (x : X) (ix : X) (sz : Nat) : awpOps C (⟨d, none, .iaddr x ix sz⟩ :: l) (AS.mk dep tm bx hp df) Q = op (pop d (.iaddr x ix sz) (vw dep tm bx hp)) fun v => awpOps C l (AS.mk dep (putd tm d v) bx hp df) Q := W_pop' rfl rfl
theorem W_iaddrA (x : X) (ix : X) (ln : Nat) (sz : Nat) : awpOps C (⟨d, none, .iaddrA x ix ln sz⟩ :: l) (AS.mk dep tm bx hp df) Q = op (pop d (.iaddrA x ix ln sz) (vw dep tm bx hp)) fun v => awpOps C l (AS.mk dep (putd tm d v) bx hp df) Q := W_pop' rfl rfl
theorem W_idxS (x : X) (ix : X) : awpOps C (⟨d, none, .idxS x ix⟩ :: l) (AS.mk dep tm bx hp df) Q = op (pop d (.idxS x ix) (vw dep tm bx hp)) fun v => awpOps C l (AS.mk dep (putd tm d v) bx hp df) Q := W_pop' rfl rfl
theorem W_idxA (x : X) (ix : X) (ln : Nat) (sz : Nat) (ag : Bool) : awpOps C (⟨d, none, .idxA x ix ln sz ag⟩ :: l) (AS.mk dep tm bx hp df) Q = op (pop d (.idxA x ix ln sz ag) (vw dep tm bx hp)) fun v => awpOps C l (AS.mk dep (putd tm d v) bx hp df) Q := W_pop' rfl rfl
theorem W_tassert (x : X) (t : TypeId) (z : AV) (ok : Bool) : awpOps C (⟨d, none, .tassert x t z ok⟩ :: l) (AS.mk dep tm bx hp df) Q = op (pop d (.tassert x t z ok) (vw dep tm bx hp)) fun v => awpOps C l (AS.mk dep (putd tm d v) bx hp df) Q := W_pop' rfl rfl
theorem W_extr (x : X) (i : Nat) : awpOps C (⟨d, none, .extr x i⟩ :: l) (AS.mk dep tm bx hp df) Q = op (pop d (.extr x i) (vw dep tm bx hp)) fun v => awpOps C l (AS.mk dep (putd tm d v) bx hp df) Q := W_pop' rfl rfl
theorem W_len (st : Bool) (x : X) : awpOps C (⟨d, none, .len st x⟩ :: l) (AS.mk dep tm bx hp df) Q = op (pop d (.len st x) (vw dep tm bx hp)) fun v => awpOps C l (AS.mk dep (putd tm d v) bx hp df) Q := W_pop' rfl rfl
theorem W_mx (xs : List X) : awpOps C (⟨d, none, .mx xs⟩ :: l) (AS.mk dep tm bx hp df) Q = op (pop d (.mx xs) (vw dep tm bx hp)) fun v => awpOps C l (AS.mk dep (putd tm d v) bx hp df) Q := W_pop' rfl rfl
theorem W_mn (xs : List X) : awpOps C (⟨d, none, .mn xs⟩ :: l) (AS.mk dep tm bx hp df) Q = op (pop d (.mn xs) (vw dep tm bx hp)) fun v => awpOps C l (AS.mk dep (putd tm d v) bx hp df) Q := W_pop' rfl rfl
theorem W_gen {o : AOp} (hw : awpOps C (⟨d, none, o⟩ :: l) (AS.mk dep tm bx hp df) Q = match aop d o (vw dep tm bx hp) with | some e => awpOps C l (AS.apply (AS.mk dep tm bx hp df) d e) Q | none => False) : awpOps C (⟨d, none, o⟩ :: l) (AS.mk dep tm bx hp df) Q = op (aop d o (vw dep tm bx hp)) fun e => awpOps C l (AS.apply (AS.mk dep tm bx hp df) d e) Q := by
  rw [hw]
  cases aop d o (vw dep tm bx hp) <;> rfl
theorem W_load (a : X) (n : Nat) (ag : Bool) : awpOps C (⟨d, none, .load a n ag false⟩ :: l) (AS.mk dep tm bx hp df) Q = op (View.ev (vw dep tm bx hp) a) fun p => op (View.at (vw dep tm bx hp) p n) fun cs => op (mkv ag cs) fun v => awpOps C l (AS.mk dep (putd tm d v.dg) bx hp df) Q := by
  rw [W_gen rfl]
  simp only [aop]
  cases View.ev (vw dep tm bx hp) a with
  | none => rfl
  | some p =>
    simp only [op_some]
    cases View.at (vw dep tm bx hp) p n with
    | none => rfl
    | some cs =>
      simp only [op_some]
      cases mkv ag cs <;> rfl
theorem W_loadt (a : X) (n : Nat) (ag : Bool) : awpOps C (⟨d, none, .load a n ag true⟩ :: l) (AS.mk dep tm bx hp df) Q = op (View.ev (vw dep tm bx hp) a) fun p => op (View.at (vw dep tm bx hp) p n) fun cs => op (mkv ag cs) fun v => op (View.write (vw dep tm bx hp) p (cs.map AV.dg1) { v := v }) fun e => awpOps C l (AS.apply (AS.mk dep tm bx hp df) d e) Q := by
  rw [W_gen rfl]
  simp only [aop]
  cases View.ev (vw dep tm bx hp) a with
  | none => rfl
  | some p =>
    simp only [op_some]
    cases View.at (vw dep tm bx hp) p n with
    | none => rfl
    | some cs =>
      simp only [op_some]
      cases mkv ag cs <;> rfl
theorem W_store (a x : X) (n : Nat) : awpOps C (⟨d, none, .store a x n⟩ :: l) (AS.mk dep tm bx hp df) Q = op (View.ev (vw dep tm bx hp) a) fun p => op (View.ev (vw dep tm bx hp) x) fun v => (v.isV = true ∧ v.cells.length = n) ∧ op (View.write (vw dep tm bx hp) p v.cells { v := .tup [], tw := left x v }) fun e => awpOps C l (AS.apply (AS.mk dep tm bx hp df) d e) Q := by
  rw [W_gen rfl]
  simp only [aop]
  cases View.ev (vw dep tm bx hp) a with
  | none => rfl
  | some p =>
    simp only [op_some]
    cases View.ev (vw dep tm bx hp) x with
    | none => rfl
    | some v =>
      simp only [op_some]
      cases hv : v.isV <;> cases hl : Nat.beq v.cells.length n
      · simp [op_none]
      · simp [op_none]
      · have : ¬ v.cells.length = n := fun e => by rw [e, Nat.beq_refl] at hl; cases hl
        simp [op_none, this]
      · have := nbeq hl
        simp [this]
theorem W_alloc (z : List AV) (h : Bool) : awpOps C (⟨d, none, .alloc z h⟩ :: l) (AS.mk dep tm bx hp df) Q = op (View.newVar (vw dep tm bx hp) d h z []) fun e => awpOps C l (AS.apply (AS.mk dep tm bx hp df) d e) Q := W_gen rfl
theorem W_box (x : X) (h : Bool) : awpOps C (⟨d, none, .box x h⟩ :: l) (AS.mk dep tm bx hp df) Q = op (View.ev (vw dep tm bx hp) x) fun v => v.isV = true ∧ op (View.newVar (vw dep tm bx hp) d h v.cells (left x v)) fun e => awpOps C l (AS.apply (AS.mk dep tm bx hp df) d e) Q := by
  rw [W_gen rfl]
  simp only [aop]
  cases View.ev (vw dep tm bx hp) x with
  | none => rfl
  | some v =>
    simp only [op_some]
    cases v.isV <;> simp [op_none]
theorem W_bsf (sz n : Nat) (z : AV) (ps : List (Nat × X)) : awpOps C (⟨d, none, .bslice sz n z ps false⟩ :: l) (AS.mk dep tm bx hp df) Q = op (pop d (.bslice sz n z ps false) (vw dep tm bx hp)) fun v => awpOps C l (AS.mk dep (putd tm d v) bx hp df) Q := W_pop' rfl rfl
theorem W_maf (sz by_ : Nat) (z : AV) (n : X) : awpOps C (⟨d, none, .mkarr sz by_ z n false⟩ :: l) (AS.mk dep tm bx hp df) Q = op (pop d (.mkarr sz by_ z n false) (vw dep tm bx hp)) fun v => awpOps C l (AS.mk dep (putd tm d v) bx hp df) Q := W_pop' rfl rfl
theorem W_app (x y : X) (sz by_ : Nat) : awpOps C (⟨d, none, .app x y sz by_⟩ :: l) (AS.mk dep tm bx hp df) Q = op (aop d (.app x y sz by_) (vw dep tm bx hp)) fun e => awpOps C l (AS.apply (AS.mk dep tm bx hp df) d e) Q := W_gen rfl
theorem W_mkmap : awpOps C (⟨d, none, .mkmap⟩ :: l) (AS.mk dep tm bx hp df) Q = awpOps C l (AS.mk dep (putd tm d (.map hp.length)) bx (hp ++ [.map []]) df) Q := rfl
theorem W_call (f : FuncId) (xs : List X) : awpOps C (⟨d, none, .call f xs⟩ :: l) (AS.mk dep tm bx hp df) Q = op (valAll (vw dep tm bx hp) xs) fun vs => ∃ e h', C f vs hp e h' ∧ (match e with
    | .ret v => okd dep d v = true ∧ awpOps C l (AS.mk dep (putd tm d v) bx h' df) Q
    | .panic v => Q (.panic v) (AS.mk dep tm bx h' df)) := by
  simp only [awpOps, guarded]
  show (match valAll (vw dep tm bx hp) xs with | some vs => _ | none => False) = _
  cases valAll (vw dep tm bx hp) xs <;> rfl
theorem W_callv (x : X) (xs : List X) : awpOps C (⟨d, none, .callv x xs⟩ :: l) (AS.mk dep tm bx hp df) Q = match View.val (vw dep tm bx hp) x, valAll (vw dep tm bx hp) xs with
        | some (.fn f caps), some vs => ∃ e h', C f (vs ++ caps) hp e h' ∧ (match e with
          | .ret v => okd dep d v = true ∧ awpOps C l (AS.mk dep (putd tm d v) bx h' df) Q
          | .panic v => Q (.panic v) (AS.mk dep tm bx h' df))
        | _, _ => False := rfl
theorem W_panic (x : X) : awpOps C (⟨d, none, .panic x⟩ :: l) (AS.mk dep tm bx hp df) Q = match View.val (vw dep tm bx hp) x with
        | some (.iface t v) => Q (.panic (.iface t v)) (AS.mk dep tm bx hp df)
        | _ => False := rfl
theorem W_guard (t : Nat) (want : Bool) (o : AOp) : awpOps C (⟨d, some (t, want), o⟩ :: l) (AS.mk dep tm bx hp df) Q = match guarded (vw dep tm bx hp) (some (t, want)) with
    | none => False
    | some false => awpOps C l (AS.mk dep (putd tm d (.tup [])) bx hp df) Q
    | some true => awpOps C (⟨d, none, o⟩ :: l) (AS.mk dep tm bx hp df) Q := by
  show awpOps C (⟨d, some (t, want), o⟩ :: l) (AS.mk dep tm bx hp df) Q = _
  cases hg : guarded (vw dep tm bx hp) (some (t, want)) with
  | none =>
    simp only [awpOps]
    rw [show guarded (AS.view (AS.mk dep tm bx hp df)) (some (t, want)) = none from hg]
  | some b =>
    cases b with
    | false =>
      simp only [awpOps]
      rw [show guarded (AS.view (AS.mk dep tm bx hp df)) (some (t, want)) = some false from hg]
      rfl
    | true =>
      simp only [awpOps]
      rw [show guarded (AS.view (AS.mk dep tm bx hp df)) (some (t, want)) = some true from hg]
      rfl
/-- Code. -/
theorem wp_seq' {a b : AC} {s : AS} (h : ∀ K : AR → AS → Prop, (∀ s1, awp C b s1 Q → K .norm s1) → (∀ r s1, r ≠ .norm → Q r s1 → K r s1) → awp C a s K) : awp C (.seq a b) s Q :=
  h _ (fun s1 h1 => ⟨s1, Weak.refl _, h1⟩) (fun r s1 hn h1 => by cases r <;> first | exact absurd rfl hn | exact h1)
theorem wp_keep' {ks bs : List Nat} {a : AC} {s : AS} (h : ∀ K : AR → AS → Prop, (∀ s1, Q .norm (s1.keep ks bs) → K .norm s1) → (∀ r s1, r ≠ .norm → Q r s1 → K r s1) → awp C a s K) : awp C (.keep ks bs a) s Q :=
  h _ (fun s1 h1 => h1) (fun r s1 hn h1 => by cases r <;> first | exact absurd rfl hn | exact h1)
theorem wp_blk' {id : Nat} {a : AC} {s : AS} (h : ∀ K : AR → AS → Prop, (∀ s1, Q .norm s1 → K .norm s1 ∧ K (.exit id) s1) → (∀ i s1, i ≠ id → Q (.exit i) s1 → K (.exit i) s1) → (∀ s1, Q .ret s1 → K .ret s1) → (∀ v s1, Q (.panic v) s1 → K (.panic v) s1) → awp C a s K) : awp C (.blk id a) s Q :=
  h _ (fun s1 h1 => ⟨h1, by simp only [if_true]; exact h1⟩) (fun i s1 hi h1 => by simp only [if_neg hi]; exact h1) (fun s1 h1 => h1) (fun v s1 h1 => h1)
theorem wp_cond' {x : X} {a b : AC} {s : AS} {c : Bool} (hx : s.view.ev x = some (.bool c)) (ht : c = true → awp C a s Q) (hf : c = false → awp C b s Q) : awp C (.cond x a b) s Q := by
  simp only [awp, hx]
  cases c
  · exact hf rfl
  · exact ht rfl
/-- A loop, by a measure. -/
theorem wp_loop' {a : AC} {s : AS} {α : Type} (I : α → AS → Prop) (m : α → Nat) (x : α) (h0 : I x s)
    (step : ∀ x s, I x s → ∃ s2, Weak s s2 ∧ ∀ K : AR → AS → Prop, (∀ y s1, m y < m x → I y s1 → K .norm s1) → (∀ r s1, r ≠ .norm → Q r s1 → K r s1) → awp C a s2 K) : awp C (.loop a) s Q := by
  have key : ∀ n x s, m x < n → I x s → loopW (fun s Q => ∃ s2, Weak s s2 ∧ awp C a s2 Q) n s Q := by
    intro n
    induction n with
    | zero => intro x s h; omega
    | succ n ih =>
      intro x s hm hI
      obtain ⟨s2, hw, h⟩ := step x s hI
      refine ⟨s2, hw, h _ (fun y s1 hy h1 => ?_) (fun r s1 hn h1 => ?_)⟩
      · exact ih y s1 (by omega) h1
      · cases r <;> first | exact absurd rfl hn | exact h1
  exact ⟨_, key _ x s (Nat.lt_succ_self _) h0⟩
end
end Go.Am

set_option linter.unusedSimpArgs false
set_option linter.unusedVariables false
open Go.RowKit
namespace Go.Am

/-! ### 32. A region, and what follows -/
section
variable {C : CallR} {Q : AR → AS → Prop} {s : AS}
theorem wp_r {ks bs : List Nat} {r : List AOper} {b : AC} (h : ∀ K : AR → AS → Prop, (∀ s1, awp C b (s1.keep ks bs) Q → K .norm s1) → (∀ v s1, Q (.panic v) s1 → K (.panic v) s1) → awpOps C r s K) : awp C (.seq (.keep ks bs (.ops r)) b) s Q :=
  h (fun r s1 => match r with
    | .norm => ∃ s2, Weak (s1.keep ks bs) s2 ∧ awp C b s2 Q
    | r => Q r s1) (fun s1 h => ⟨_, Weak.refl _, h⟩) (fun v s1 h => h) |> fun k => by
    show awpOps C r s _
    refine (show ∀ {K K' : AR → AS → Prop}, K = K' → awpOps C r s K → awpOps C r s K' from fun e h => e ▸ h) ?_ k
    funext r s1
    cases r <;> rfl
theorem wp_r' {ks bs : List Nat} {r : List AOper} (h : ∀ K : AR → AS → Prop, (∀ s1, Q .norm (s1.keep ks bs) → K .norm s1) → (∀ v s1, Q (.panic v) s1 → K (.panic v) s1) → awpOps C r s K) : awp C (.keep ks bs (.ops r)) s Q :=
  wp_keep' fun K h1 h2 => h K h1 fun v s1 h3 => h2 _ _ (by simp) h3
theorem wp_d {ks bs : List Nat} {r : List (AOper × List Nat)} {b : AC} (hs : statOK s.dep [] r = true) (h : ∀ K : AR → AS → Prop, (∀ s1, awp C b (s1.keep ks bs) Q → K .norm s1) → (∀ v s1, Q (.panic v) s1 → K (.panic v) s1) → drawQ C r 0 [] [] [] s K) : awp C (.seq (.keep ks bs (.draw r)) b) s Q :=
  wp_seq' fun K h1 h2 => wp_keep' fun K' h3 h4 => awp_draw hs (h K' (fun s1 h5 => h3 _ (h1 _ h5)) fun v s1 h5 => h4 _ _ (by simp) (h2 _ _ (by simp) h5))
theorem wp_d' {ks bs : List Nat} {r : List (AOper × List Nat)} (hs : statOK s.dep [] r = true) (h : ∀ K : AR → AS → Prop, (∀ s1, Q .norm (s1.keep ks bs) → K .norm s1) → (∀ v s1, Q (.panic v) s1 → K (.panic v) s1) → drawQ C r 0 [] [] [] s K) : awp C (.keep ks bs (.draw r)) s Q :=
  wp_keep' fun K' h3 h4 => awp_draw hs (h K' (fun s1 h5 => h3 _ h5) fun v s1 h5 => h4 _ _ (by simp) h5)
theorem wp_skip' (h : Q .norm s) : awp C .skip s Q := h
theorem wp_exit' {id : Nat} (h : Q (.exit id) s) : awp C (.exit id) s Q := h
theorem wp_ret' (h : Q .ret s) : awp C .ret s Q := h
/-- Values. -/
theorem dg_int (k : IntKind) (n : Int) : AV.dg (.int k n) = .int k n := rfl
theorem dg_bool (b : Bool) : AV.dg (.bool b) = .bool b := rfl
theorem dg_str (s : ByteArray) : AV.dg (.str s) = .str s := rfl
theorem dg_sl (z : Nat) (l : List AV) : AV.dg (.sl z l) = .sl z l := rfl
theorem dg_xsl (z : Nat) (l : List AV) : AV.dg (.xsl z l) = .sl z l := rfl
theorem dg_nsl : AV.dg .nsl = .nsl := rfl
theorem dg_fptr (e : AV) (o : Nat) : AV.dg (.fptr e o) = .fptr e o := rfl
theorem dg_hptr (i o : Nat) : AV.dg (.hptr i o) = .hptr i o := rfl
theorem dg_lptr (i o : Nat) : AV.dg (.lptr i o) = .lptr i o := rfl
theorem dg_agg (l : List AV) : AV.dg (.agg l) = .agg (l.map AV.dg1) := rfl
theorem dg_tup (l : List AV) : AV.dg (.tup l) = .tup (l.map AV.dgc) := rfl
theorem okd_of {dep : List (Nat × List Nat)} {d : Option Nat} {v : AV} (h : v.isV = true) : okd dep d v = true := by
  cases v <;> first | rfl | cases h
theorem abin_add (ty : BT) (k : IntKind) (a b : Int) : abin ty .add (.int k a) (.int k b) = some (.int k (k.wrap (a + b))) := by simp [abin]
theorem abin_sub (ty : BT) (k : IntKind) (a b : Int) : abin ty .sub (.int k a) (.int k b) = some (.int k (k.wrap (a - b))) := by simp [abin]
theorem abin_mul (ty : BT) (k : IntKind) (a b : Int) : abin ty .mul (.int k a) (.int k b) = some (.int k (k.wrap (a * b))) := by simp [abin]
theorem abin_quo (ty : BT) (k : IntKind) (a b : Int) : abin ty .quo (.int k a) (.int k b) = if b = 0 then none else some (.int k (k.wrap (a.tdiv b))) := by simp [abin]
theorem abin_rem (ty : BT) (k : IntKind) (a b : Int) : abin ty .rem (.int k a) (.int k b) = if b = 0 then none else some (.int k (a.tmod b)) := by simp [abin]
theorem abin_eql (ty : BT) (k : IntKind) (a b : Int) : abin ty .eql (.int k a) (.int k b) = some (.bool (decide (a = b))) := by
  simp only [abin, if_true]
  by_cases h : a = b <;> simp [h]
theorem abin_neq (ty : BT) (k : IntKind) (a b : Int) : abin ty .neq (.int k a) (.int k b) = some (.bool (decide (a ≠ b))) := by
  simp only [abin, if_true]
  by_cases h : a = b <;> simp [h]
theorem abin_lss (ty : BT) (k : IntKind) (a b : Int) : abin ty .lss (.int k a) (.int k b) = some (.bool (decide (a < b))) := by simp [abin]
theorem abin_leq (ty : BT) (k : IntKind) (a b : Int) : abin ty .leq (.int k a) (.int k b) = some (.bool (decide (a ≤ b))) := by simp [abin]
theorem abin_gtr (ty : BT) (k : IntKind) (a b : Int) : abin ty .gtr (.int k a) (.int k b) = some (.bool (decide (b < a))) := by simp [abin]
theorem abin_geq (ty : BT) (k : IntKind) (a b : Int) : abin ty .geq (.int k a) (.int k b) = some (.bool (decide (b ≤ a))) := by simp [abin]
theorem abin_seql (ty : BT) (a b : ByteArray) : abin ty .eql (.str a) (.str b) = some (.bool (decide (a = b))) := by
  simp only [abin, ByteArray.toList_eq]
  by_cases h : a = b
  · subst h; simp
  · have : ¬ a.data = b.data := fun e => h (by cases a; cases b; simp only [ByteArray.mk.injEq]; exact e)
    simp [h, this]
theorem abin_sneq (ty : BT) (a b : ByteArray) : abin ty .neq (.str a) (.str b) = some (.bool (decide (a ≠ b))) := by
  simp only [abin, ByteArray.toList_eq]
  by_cases h : a = b
  · subst h; simp
  · have : ¬ a.data = b.data := fun e => h (by cases a; cases b; simp only [ByteArray.mk.injEq]; exact e)
    simp [h, this]
theorem abin_beql (ty : BT) (a b : Bool) (h : ty = .bool) : abin ty .eql (.bool a) (.bool b) = some (.bool (a == b)) := by subst h; rfl
theorem abin_bneq (ty : BT) (a b : Bool) (h : ty = .bool) : abin ty .neq (.bool a) (.bool b) = some (.bool (!(a == b))) := by subst h; rfl
section
variable {d : Option Nat} {v : View}
theorem pop_pick (c a b : X) : pop d (.pick c a b) v = match v.ev c with | some (.bool true) => v.val a | some (.bool false) => v.val b | _ => none := rfl
theorem pop_build (z : List AV) (ps : List (Nat × Nat × X)) : pop d (.build z ps) v = match fillA v z ps with | some cs => some (.agg cs) | none => none := rfl
theorem pop_bin (ty : BT) (o : BinOp) (x y : X) : pop d (.bin ty o x y) v = match v.cp x, v.ev y with | some a, some b => abin ty o a b | _, _ => none := rfl
theorem pop_un (o : UnOp) (x : X) : pop d (.un o x) v = match v.ev x with | some a => aun o a | none => none := rfl
theorem pop_conv (k : IntKind) (x : X) : pop d (.conv k x) v = match v.ev x with | some (.int _ n) => some (.int k (k.wrap n)) | _ => none := rfl
theorem pop_mkif (t : TypeId) (x : X) : pop d (.mkif t x) v = match v.val x with | some u => some (.iface t u) | none => none := rfl
theorem pop_faddr (x : X) (off : Nat) : pop d (.faddr x off) v = match v.ev x with
    | some (.hptr id p) => some (.hptr id (p + off))
    | some (.lptr b p) => okv v.dep d (.lptr b (p + off))
    | some (.fptr e p) => some (.fptr e (p + off))
    | _ => none := rfl
theorem pop_fld (x : X) (off n : Nat) (ag : Bool) : pop d (.fld x off n ag) v = match v.cp x with | some (.agg cs) => (match window cs off n with | some w => mkv ag w | none => none) | _ => none := rfl
theorem pop_iaddr (x ix : X) (sz : Nat) : pop d (.iaddr x ix sz) v = match v.cp x, v.ev ix with
    | some (.sl sz' es), some (.int _ i) => (match decide (0 ≤ i), es[i.toNat]?, Nat.beq sz sz' with
      | true, some e, true => some (.fptr e 0)
      | _, _, _ => none)
    | some (.hsl id sz' o len), some (.int _ i) => (match decide (0 ≤ i), decide (i < len), Nat.beq sz sz' with
      | true, true, true => some (.hptr id ((o + i.toNat) * sz))
      | _, _, _ => none)
    | _, _ => none := rfl
theorem pop_extr (x : X) (i : Nat) : pop d (.extr x i) v = match v.cp x with | some (.tup vs) => vs[i]? | _ => none := rfl
theorem pop_len (st : Bool) (x : X) : pop d (.len st x) v = match st, v.cp x with
    | true, some (.str b) => some (.int .i64 b.size)
    | false, some (.sl _ l) => some (.int .i64 l.length)
    | false, some .nsl => some (.int .i64 0)
    | false, some (.hsl _ _ _ n) => some (.int .i64 n)
    | _, _ => none := rfl
theorem cp_t (dep : List (Nat × List Nat)) (tm : List (Nat × AV)) (bx : List (Nat × List AV)) (hp : List HObj) (n : Nat) : View.cp (vw dep tm bx hp) (.t n) = (look tm n).map AV.dg := rfl
theorem cp_c (dep : List (Nat × List Nat)) (tm : List (Nat × AV)) (bx : List (Nat × List AV)) (hp : List HObj) (u : AV) : View.cp (vw dep tm bx hp) (.c u) = some u.dg := rfl
theorem val_t (dep : List (Nat × List Nat)) (tm : List (Nat × AV)) (bx : List (Nat × List AV)) (hp : List HObj) (n : Nat) : View.val (vw dep tm bx hp) (.t n) = match look tm n with | some u => u.dg.chk | none => none := rfl
theorem val_c (dep : List (Nat × List Nat)) (tm : List (Nat × AV)) (bx : List (Nat × List AV)) (hp : List HObj) (u : AV) : View.val (vw dep tm bx hp) (.c u) = u.dg.chk := rfl
theorem chk_of {u : AV} (h : u.isV = true) : u.chk = some u := by simp [AV.chk, h]
theorem valAll_nil : valAll v [] = some [] := rfl
theorem valAll_cons (x : X) (xs : List X) : valAll v (x :: xs) = match v.val x, valAll v xs with | some u, some us => some (u :: us) | _, _ => none := rfl
theorem at_fptr (e : AV) (off n : Nat) : v.at (.fptr e off) n = window e.cells off n := rfl
theorem at_lptr (dep : List (Nat × List Nat)) (tm : List (Nat × AV)) (bx : List (Nat × List AV)) (hp : List HObj) (b off n : Nat) : View.at (vw dep tm bx hp) (.lptr b off) n = match look bx b with | some cs => window cs off n | none => none := rfl
theorem at_hptr (dep : List (Nat × List Nat)) (tm : List (Nat × AV)) (bx : List (Nat × List AV)) (hp : List HObj) (id pos n : Nat) : View.at (vw dep tm bx hp) (.hptr id pos) n = match hp[id]? with | some (.obj cs) => window cs pos n | _ => none := rfl
theorem win (cs : List AV) (off n : Nat) : window cs off n = if off + n ≤ cs.length then some ((cs.drop off).take n) else none := by
  unfold window
  cases h : Nat.ble (off + n) cs.length with
  | true => rw [if_pos (Nat.le_of_ble_eq_true h)]
  | false => rw [if_neg fun h' => by rw [Nat.ble_eq_true_of_le h'] at h; cases h]
theorem mkv_t (cs : List AV) : mkv true cs = some (.agg cs) := rfl
theorem mkv_f (u : AV) : mkv false [u] = some u := rfl
end
theorem leftT (n : Nat) (v : AV) : left (.t n) v = [(n, v.dg)] := rfl
theorem leftC (c v : AV) : left (.c c) v = [] := rfl
theorem puts_nil (l : List (Nat × AV)) : puts l [] = l := rfl
theorem puts_cons (l : List (Nat × AV)) (t : Nat) (v : AV) (r : List (Nat × AV)) : puts l ((t, v) :: r) = puts (put l t v) r := rfl
theorem putd_some (l : List (Nat × AV)) (d : Nat) (v : AV) : putd l (some d) v = put l d v := rfl
theorem putd_none (l : List (Nat × AV)) (v : AV) : putd l none v = l := rfl
theorem isV_int (k : IntKind) (n : Int) : AV.isV (.int k n) = true := by simp [AV.isV]
theorem isV_bool (b : Bool) : AV.isV (.bool b) = true := by simp [AV.isV]
theorem isV_str (s : ByteArray) : AV.isV (.str s) = true := by simp [AV.isV]
theorem isV_sl (z : Nat) (l : List AV) : AV.isV (.sl z l) = true := by simp [AV.isV]
theorem isV_xsl (z : Nat) (l : List AV) : AV.isV (.xsl z l) = true := by simp [AV.isV]
theorem isV_nsl : AV.isV .nsl = true := by simp [AV.isV]
theorem isV_agg (l : List AV) : AV.isV (.agg l) = true := by simp [AV.isV]
theorem isV_fptr (e : AV) (o : Nat) : AV.isV (.fptr e o) = true := by simp [AV.isV]
theorem isV_hptr (i o : Nat) : AV.isV (.hptr i o) = true := by simp [AV.isV]
theorem okd_tup (dep : List (Nat × List Nat)) (d : Option Nat) (l : List AV) : okd dep d (.tup l) = true := rfl
end
/-- A function, by its contracts. -/
theorem fun_ok {P : Program} {f : FuncId} {F : AFun} (hF : FnOK P f F) {vs : List AV} {h : List HObj} {e : AEnd} {h' : List HObj} (hv : vs.length = F.np) (hb : awp (CallS P) F.body (F.init vs h) (fin (CallDS P) F.res e h')) : CallS P f vs h e h' :=
  fun_sound (C := CallS P) (D := CallDS P) (fun _ _ _ _ _ h => h) (fun _ _ _ _ _ _ h => h) hF hv hb
theorem fin_ret1 {D : CallDR} {t : Nat} {v : AV} {dep : List (Nat × List Nat)} {tm : List (Nat × AV)} {bx : List (Nat × List AV)} {h : List HObj} (hv : look tm t = some v) (hi : v.isV = true) : fin D [.tmp t] (.ret v) h .ret (AS.mk dep tm bx h []) := by
  show (match aRes (AS.mk dep tm bx h []) [.tmp t] with | some (vs, s') => AEnd.ret v = .ret (one1 vs) ∧ h = _ | none => False)
  simp [aRes, hv, hi, one1]
theorem wrap_id {n : Int} (h : -9223372036854775808 ≤ n ∧ n ≤ 9223372036854775807) : IntKind.wrap .i64 n = n := wrap64_id h.1 h.2
end Go.Am

set_option linter.unusedSimpArgs false
set_option linter.unusedVariables false
open Go.RowKit
namespace Go.Am

/-! ### 33. Any order, by rewriting -/
structure MF where
  rb : List Nat
  wb : List Nat
  rh : Bool
  wh : Bool
def MF.ok (x y : MF) : Bool := disj x.wb y.wb && disj x.wb y.rb && disj x.rb y.wb && !(y.wh && (x.wh || x.rh)) && !(x.wh && (y.wh || y.rh))
def mfOf (anc : List Nat) (y : MF) : List (Nat × MF) → Bool
  | [] => true
  | (i, x) :: r => (anc.elem i || x.ok y) && mfOf anc y r
def ldF : AV → MF
  | .lptr b _ => ⟨[b], [], false, false⟩
  | .hptr _ _ => ⟨[], [], true, false⟩
  | _ => ⟨[], [], false, false⟩
def stF : AV → MF
  | .lptr b _ => ⟨[b], [b], false, false⟩
  | .hptr _ _ => ⟨[], [], true, true⟩
  | _ => ⟨[], [], false, false⟩
def drawR (C : CallR) : List (AOper × List Nat) → Nat → List (Nat × MF) → List Nat → List Nat → AS → (AR → AS → Prop) → Prop
  | [], _, _, _, _, s, Q => Q .norm s
  | (o, anc) :: l, j, tr, ws, bs, s, Q => match guarded s.view o.g with
    | none => False
    | some false => match o.op.mem with
      | false => drawR C l (j + 1) tr (ws ++ dtms o.d) bs (s.apply o.d { v := .tup [] }) Q
      | true => ∃ f : MF, o.op.rb s.view = f.rb ∧ o.op.rh s.view = f.rh ∧ f.wb = [] ∧ f.wh = false ∧ mfOf anc f tr = true ∧ drawR C l (j + 1) (tr ++ [(j, f)]) (ws ++ dtms o.d) bs (s.apply o.d { v := .tup [] }) Q
    | some true => match o.op with
      | .call f xs => match valAll s.view xs with
        | none => False
        | some vs => ∃ e h', C f vs s.hp e h' ∧ match e with
          | .ret v => okd s.dep o.d v = true ∧
            ((h' = s.hp ∧ mfOf anc ⟨[], [], true, false⟩ tr = true ∧ drawR C l (j + 1) (tr ++ [(j, ⟨[], [], true, false⟩)]) (ws ++ dtms o.d) bs (s.apply o.d { v := v }) Q) ∨
             (mfOf anc ⟨[], [], true, true⟩ tr = true ∧ drawR C l (j + 1) (tr ++ [(j, ⟨[], [], true, true⟩)]) (ws ++ dtms o.d) bs (s.apply o.d { v := v, hw := some h' }) Q))
          | .panic v => mfOf anc ⟨[], [], true, true⟩ tr = true ∧ allAfter j l = true ∧ Q (.panic v) { s with tm := without ws s.tm, bx := without bs s.bx, hp := h' }
      | .panic x => match s.view.val x with
        | some (.iface t v) => mfOf anc ⟨[], [], false, true⟩ tr = true ∧ allAfter j l = true ∧ Q (.panic (.iface t v)) { s with tm := without ws s.tm, bx := without bs s.bx, hp := s.hp }
        | _ => False
      | .load a n ag false => match s.view.ev a with
        | none => False
        | some p => op (s.view.at p n) fun cs => op (mkv ag cs) fun v => mfOf anc (ldF p) tr = true ∧ drawR C l (j + 1) (tr ++ [(j, ldF p)]) (ws ++ dtms o.d) bs (s.apply o.d { v := v.dg }) Q
      | .store a x n => match s.view.ev a with
        | none => False
        | some p => op (aop o.d (.store a x n) s.view) fun e => mfOf anc (stF p) tr = true ∧ drawR C l (j + 1) (tr ++ [(j, stF p)]) (ws ++ (dtms o.d ++ keys e.tw)) (bs ++ btms e.bw) (s.apply o.d e) Q
      | .alloc z false => op (aop o.d (.alloc z false) s.view) fun e => mfOf anc ⟨[], btms e.bw, false, false⟩ tr = true ∧ drawR C l (j + 1) (tr ++ [(j, ⟨[], btms e.bw, false, false⟩)]) (ws ++ (dtms o.d ++ keys e.tw)) (bs ++ btms e.bw) (s.apply o.d e) Q
      | .alloc z true => op (aop o.d (.alloc z true) s.view) fun e => mfOf anc ⟨[], [], true, true⟩ tr = true ∧ drawR C l (j + 1) (tr ++ [(j, ⟨[], [], true, true⟩)]) (ws ++ dtms o.d) bs (s.apply o.d e) Q
      | .box x false => op (aop o.d (.box x false) s.view) fun e => mfOf anc ⟨[], btms e.bw, false, false⟩ tr = true ∧ drawR C l (j + 1) (tr ++ [(j, ⟨[], btms e.bw, false, false⟩)]) (ws ++ (dtms o.d ++ keys e.tw)) (bs ++ btms e.bw) (s.apply o.d e) Q
      | .lookup m k z ok st => op (aop o.d (.lookup m k z ok st) s.view) fun e => mfOf anc ⟨[], [], true, false⟩ tr = true ∧ drawR C l (j + 1) (tr ++ [(j, ⟨[], [], true, false⟩)]) (ws ++ dtms o.d) bs (s.apply o.d e) Q
      | x => match x.mem with
        | true => False
        | false => op (aop o.d x s.view) fun e => e.dw = none ∧ drawR C l (j + 1) tr (ws ++ (dtms o.d ++ keys e.tw)) bs (s.apply o.d e) Q
/-- Of the full traces what the short ones tell. -/
def Ent.as (x : Ent) (f : MF) : Prop := x.f.rb = f.rb ∧ (∀ b, b ∈ x.f.wb → b ∈ f.wb) ∧ (x.f.rh = true → f.rh = true) ∧ (x.f.wh = true → f.wh = true)
inductive TrM : List (Nat × Ent) → List (Nat × MF) → Prop
  | nil : TrM [] []
  | add {es : List (Nat × Ent)} {fs : List (Nat × MF)} {j : Nat} {x : Ent} {f : MF} (h : TrM es fs) (hx : x.as f) : TrM (es ++ [(j, x)]) (fs ++ [(j, f)])
theorem calm_of {x y : Ent} {f g : MF} (hx : x.as f) (hy : y.as g) (h : (g.wh && (f.wh || f.rh)) = false) : x.calm y := by
  cases hw : y.f.wh with
  | false => exact .inl hw
  | true =>
    have h1 := hy.2.2.2 hw
    rw [h1, Bool.true_and, Bool.or_eq_false_iff] at h
    refine .inr ⟨?_, .inl ?_⟩
    · cases hq : x.f.wh with
      | false => rfl
      | true => rw [hx.2.2.2 hq] at h; cases h.1
    · cases hq : x.f.rh with
      | false => rfl
      | true => rw [hx.2.2.1 hq] at h; cases h.2
theorem memfree_of {x y : Ent} {f g : MF} (hx : x.as f) (hy : y.as g) (h : f.ok g = true) : x.memfree y := by
  simp only [MF.ok, Bool.and_eq_true, Bool.not_eq_true'] at h
  obtain ⟨⟨⟨⟨h1, h2⟩, h3⟩, h4⟩, h5⟩ := h
  refine ⟨disj_iff.2 fun t a b => disj_spec h1 t (hx.2.1 t a) (hy.2.1 t b), disj_iff.2 fun t a b => disj_spec h2 t (hx.2.1 t a) (hy.1 ▸ b), disj_iff.2 fun t a b => disj_spec h3 t (hx.1 ▸ a) (hy.2.1 t b), calm_of hx hy h4, calm_of hy hx h5⟩
theorem mfOf_append (anc : List Nat) (y : MF) : ∀ (a b : List (Nat × MF)), mfOf anc y (a ++ b) = (mfOf anc y a && mfOf anc y b)
  | [], b => rfl
  | (i, x) :: a, b => by simp only [List.cons_append, mfOf, mfOf_append anc y a b, Bool.and_assoc]
theorem memOf_append {anc : List Nat} {y : Ent} : ∀ {a b : List (Nat × Ent)}, memOf anc y a → memOf anc y b → memOf anc y (a ++ b)
  | [], b, _, h => h
  | (i, x) :: a, b, h, k => ⟨h.1, memOf_append h.2 k⟩
theorem memOf_of {anc : List Nat} {es : List (Nat × Ent)} {fs : List (Nat × MF)} (h : TrM es fs) {y : Ent} {g : MF} (hy : y.as g) (hm : mfOf anc g fs = true) : memOf anc y es := by
  induction h with
  | nil => trivial
  | add h hx ih =>
    rw [mfOf_append] at hm
    simp only [mfOf, Bool.and_true, Bool.and_eq_true, Bool.or_eq_true] at hm
    exact memOf_append (ih hm.1) ⟨hm.2.imp_right fun h => memfree_of hx hy h, trivial⟩
theorem write_bw {s : View} {a : AV} {new : List AV} {e e' : Eff} (h : s.write a new e = some e') (hb : e.bw = none) (hh : e.hw = none) (hd : e.dw = none) :
    (∀ b, b ∈ btms e'.bw → b ∈ (stF a).wb) ∧ (e'.hw.isSome = true → (stF a).wh = true) ∧ e'.dw = none := by
  unfold View.write at h
  split at h
  · split at h
    · split at h
      · cases h
        exact ⟨(fun b hb => hb), (fun h => by rw [hh] at h; cases h), hd⟩
      · cases h
    · cases h
  · split at h
    · split at h
      · cases h
        exact ⟨(fun b h => by simp [hb, btms] at h), (fun _ => rfl), hd⟩
      · cases h
    · cases h
  · cases h
theorem drawR_Q {C : CallR} {Q : AR → AS → Prop} : ∀ (l : List (AOper × List Nat)) (j : Nat) (es : List (Nat × Ent)) (tr : List (Nat × MF)) (ws bs : List Nat) (s : AS), TrM es tr → drawR C l j tr ws bs s Q → drawQ C l j es ws bs s Q
  | [], j, es, tr, ws, bs, s, ht, h => h
  | (o, anc) :: l, j, es, tr, ws, bs, s, ht, h => by
    simp only [drawR] at h
    simp only [drawQ]
    split at h
    · exact h.elim
    · rename_i hg
      split at h
      · rename_i hm
        rw [hm]
        simp only [hg]
        exact drawR_Q l (j + 1) es tr _ bs _ ht h
      · rename_i hm
        obtain ⟨f, h1, h2, h3, h4, h5, h6⟩ := h
        rw [hm]
        have has : (ent o s { v := .tup [] }).as f := ⟨h1, (fun b hb => by cases hb), (fun h => by rw [← h2]; exact h), fun h => by cases h⟩
        refine .inl ⟨{ v := .tup [] }, .skip hg, rfl, memOf_of ht has h5, ?_⟩
        have := drawR_Q l (j + 1) _ _ (ws ++ dtms o.d) bs _ (ht.add (j := j) has) h6
        simpa [keys, btms] using this
    · rename_i hg
      split at h
      · rename_i f xs hop
        have hm : o.op.mem = true := by rw [hop]; rfl
        rw [hm]
        split at h
        · exact h.elim
        · rename_i vs hv
          obtain ⟨e, h', hC, h⟩ := h
          split at h
          · rename_i v
            obtain ⟨hd, ⟨rfl, h1, h2⟩ | ⟨h1, h2⟩⟩ := h
            · have has : (ent o s { v := v }).as ⟨[], [], true, false⟩ := ⟨by simp [ent, AOp.rb, AOp.adr, hop], (fun b hb => by cases hb), (fun _ => rfl), fun h => by cases h⟩
              refine .inl ⟨{ v := v }, .call hg hop hv hC hd (.inr ⟨rfl, rfl⟩), rfl, memOf_of ht has h1, ?_⟩
              have := drawR_Q l (j + 1) _ _ _ _ _ (ht.add (j := j) has) h2
              simpa [keys, btms] using this
            · have has : (ent o s { v := v, hw := some h' }).as ⟨[], [], true, true⟩ := ⟨by simp [ent, AOp.rb, AOp.adr, hop], (fun b hb => by cases hb), (fun _ => rfl), fun _ => rfl⟩
              refine .inl ⟨{ v := v, hw := some h' }, .call hg hop hv hC hd (.inl rfl), rfl, memOf_of ht has h1, ?_⟩
              have := drawR_Q l (j + 1) _ _ _ _ _ (ht.add (j := j) has) h2
              simpa [keys, btms] using this
          · rename_i v
            obtain ⟨h1, h2, h3⟩ := h
            have has : (ent o s { v := .tup [], hw := some h' }).as ⟨[], [], true, true⟩ := ⟨by simp [ent, AOp.rb, AOp.adr, hop], (fun b hb => by cases hb), (fun _ => rfl), fun _ => rfl⟩
            exact .inr ⟨v, h', .call hg hop hv hC, memOf_of ht has h1, h2, h3⟩
      · rename_i x hop
        have hm : o.op.mem = true := by rw [hop]; rfl
        rw [hm]
        split at h
        · rename_i t v hv
          obtain ⟨h1, h2, h3⟩ := h
          have has : (ent o s { v := .tup [], hw := some s.hp }).as ⟨[], [], false, true⟩ := ⟨by simp [ent, AOp.rb, AOp.adr, hop], (fun b hb => by cases hb), (fun h => by simp [ent, AOp.rh, hop] at h), fun _ => rfl⟩
          exact .inr ⟨.iface t v, s.hp, .panic hg hop hv, memOf_of ht has h1, h2, h3⟩
        · exact h.elim
      · rename_i a n ag hop
        have hm : o.op.mem = true := by rw [hop]; rfl
        rw [hm]
        split at h
        · exact h.elim
        · rename_i p hp
          cases hat : s.view.at p n with
          | none => rw [hat] at h; exact h.elim
          | some cs =>
            rw [hat] at h
            cases hv : mkv ag cs with
            | none => rw [op_some, hv] at h; exact h.elim
            | some v =>
              rw [op_some, hv, op_some] at h
              obtain ⟨h1, h2⟩ := h
              have has : (ent o s { v := v.dg }).as (ldF p) := by
                refine ⟨?_, (fun b hb => by cases hb), ?_, fun h => by cases h⟩
                · simp only [ent, AOp.rb, AOp.adr, hop, hp]
                  cases p <;> rfl
                · simp only [ent, AOp.rh, hop, hp]
                  cases p <;> first | (intro h; cases h; done) | exact fun h => h
              refine .inl ⟨{ v := v.dg }, .op hg (by rw [hop]; simp only [aop, hp, hat, hv]), rfl, memOf_of ht has h1, ?_⟩
              have := drawR_Q l (j + 1) _ _ _ _ _ (ht.add (j := j) has) h2
              simpa [keys, btms] using this
      · rename_i a x n hop
        have hm : o.op.mem = true := by rw [hop]; rfl
        rw [hm]
        split at h
        · exact h.elim
        · rename_i p hp
          cases he : aop o.d (.store a x n) s.view with
          | none => rw [he] at h; exact h.elim
          | some e =>
            rw [he, op_some] at h
            obtain ⟨h1, h2⟩ := h
            have hw : (∀ b, b ∈ btms e.bw → b ∈ (stF p).wb) ∧ (e.hw.isSome = true → (stF p).wh = true) ∧ e.dw = none := by
              simp only [aop, hp] at he
              split at he
              · rename_i p' v hpv hv
                cases hpv
                split at he
                · exact write_bw he rfl rfl rfl
                · cases he
              · cases he
            have has : (ent o s e).as (stF p) := by
              refine ⟨?_, hw.1, ?_, hw.2.1⟩
              · simp only [ent, AOp.rb, AOp.adr, hop, hp]
                cases p <;> rfl
              · simp only [ent, AOp.rh, hop, hp]
                cases p <;> first | (intro h; cases h; done) | exact fun h => h
            refine .inl ⟨e, .op hg (by rw [hop]; exact he), hw.2.2, memOf_of ht has h1, ?_⟩
            exact drawR_Q l (j + 1) _ _ _ _ _ (ht.add (j := j) has) h2
      · rename_i z hop
        have hm : o.op.mem = true := by rw [hop]; rfl
        rw [hm]
        cases he : aop o.d (.alloc z false) s.view with
        | none => rw [he] at h; exact h.elim
        | some e =>
          rw [he, op_some] at h
          obtain ⟨h1, h2⟩ := h
          have hw : e.hw = none ∧ e.dw = none := by
            simp only [aop, View.newVar] at he
            split at he
            · rename_i hq; cases hq
            · split at he
              · split at he
                · cases he; exact ⟨rfl, rfl⟩
                · cases he
              · cases he
            · cases he
          have has : (ent o s e).as ⟨[], btms e.bw, false, false⟩ := ⟨by simp [ent, AOp.rb, AOp.adr, hop], (fun b hb => hb), (fun h => by simp [ent, AOp.rh, hop] at h), fun h => by simp [ent, hw.1] at h⟩
          refine .inl ⟨e, .op hg (by rw [hop]; exact he), hw.2, memOf_of ht has h1, ?_⟩
          exact drawR_Q l (j + 1) _ _ _ _ _ (ht.add (j := j) has) h2
      · rename_i z hop
        have hm : o.op.mem = true := by rw [hop]; rfl
        rw [hm]
        cases he : aop o.d (.alloc z true) s.view with
        | none => rw [he] at h; exact h.elim
        | some e =>
          rw [he, op_some] at h
          obtain ⟨h1, h2⟩ := h
          have hw : e.bw = none ∧ e.dw = none ∧ e.tw = [] := by
            cases hd : o.d <;> (simp only [aop, View.newVar] at he; cases he; exact ⟨rfl, rfl, rfl⟩)
          have has : (ent o s e).as ⟨[], [], true, true⟩ := ⟨by simp [ent, AOp.rb, AOp.adr, hop], (fun b hb => by simp [ent, hw.1, btms] at hb), (fun _ => rfl), fun _ => rfl⟩
          refine .inl ⟨e, .op hg (by rw [hop]; exact he), hw.2.1, memOf_of ht has h1, ?_⟩
          have := drawR_Q l (j + 1) _ _ _ _ _ (ht.add (j := j) has) h2
          simpa [keys, btms, hw.1, hw.2.2] using this
      · rename_i x hop
        have hm : o.op.mem = true := by rw [hop]; rfl
        rw [hm]
        cases he : aop o.d (.box x false) s.view with
        | none => rw [he] at h; exact h.elim
        | some e =>
          rw [he, op_some] at h
          obtain ⟨h1, h2⟩ := h
          have hw : e.hw = none ∧ e.dw = none := by
            simp only [aop] at he
            split at he
            · split at he
              · simp only [View.newVar] at he
                split at he
                · rename_i hq; cases hq
                · split at he
                  · split at he
                    · cases he; exact ⟨rfl, rfl⟩
                    · cases he
                  · cases he
                · cases he
              · cases he
            · cases he
          have has : (ent o s e).as ⟨[], btms e.bw, false, false⟩ := ⟨by simp [ent, AOp.rb, AOp.adr, hop], (fun b hb => hb), (fun h => by simp [ent, AOp.rh, hop] at h), fun h => by simp [ent, hw.1] at h⟩
          refine .inl ⟨e, .op hg (by rw [hop]; exact he), hw.2, memOf_of ht has h1, ?_⟩
          exact drawR_Q l (j + 1) _ _ _ _ _ (ht.add (j := j) has) h2
      · rename_i m k z ok st hop
        have hm : o.op.mem = true := by rw [hop]; rfl
        rw [hm]
        cases he : aop o.d (.lookup m k z ok st) s.view with
        | none => rw [he] at h; exact h.elim
        | some e =>
          rw [he, op_some] at h
          obtain ⟨h1, h2⟩ := h
          have hw : e.bw = none ∧ e.hw = none ∧ e.dw = none ∧ e.tw = [] := by
            simp only [aop] at he
            split at he
            · split at he
              · split at he
                · split at he <;> (cases he; exact ⟨rfl, rfl, rfl, rfl⟩)
                · cases he
              · cases he
            · cases he
          have has : (ent o s e).as ⟨[], [], true, false⟩ := ⟨by simp [ent, AOp.rb, AOp.adr, hop], (fun b hb => by simp [ent, hw.1, btms] at hb), (fun _ => rfl), fun h => by simp [ent, hw.2.1] at h⟩
          refine .inl ⟨e, .op hg (by rw [hop]; exact he), hw.2.2.1, memOf_of ht has h1, ?_⟩
          have := drawR_Q l (j + 1) _ _ _ _ _ (ht.add (j := j) has) h2
          simpa [keys, btms, hw.1, hw.2.2.2] using this
      · split at h
        · exact h.elim
        · rename_i hm
          rw [hm]
          simp only [hg]
          cases he : aop o.d o.op s.view with
          | none => rw [he] at h; exact h.elim
          | some e =>
            rw [he, op_some] at h
            exact ⟨e, rfl, h.1, drawR_Q l (j + 1) es tr _ bs _ ht h.2⟩
section
variable {C : CallR} {Q : AR → AS → Prop} {s : AS}
theorem wp_dr {ks bs : List Nat} {r : List (AOper × List Nat)} {b : AC} (hs : statOK s.dep [] r = true) (h : ∀ K : AR → AS → Prop, (∀ s1, awp C b (s1.keep ks bs) Q → K .norm s1) → (∀ v s1, Q (.panic v) s1 → K (.panic v) s1) → drawR C r 0 [] [] [] s K) : awp C (.seq (.keep ks bs (.draw r)) b) s Q :=
  wp_d hs fun K h1 h2 => drawR_Q _ _ _ _ _ _ _ .nil (h K h1 h2)
theorem wp_dr' {ks bs : List Nat} {r : List (AOper × List Nat)} (hs : statOK s.dep [] r = true) (h : ∀ K : AR → AS → Prop, (∀ s1, Q .norm (s1.keep ks bs) → K .norm s1) → (∀ v s1, Q (.panic v) s1 → K (.panic v) s1) → drawR C r 0 [] [] [] s K) : awp C (.keep ks bs (.draw r)) s Q :=
  wp_d' hs fun K h1 h2 => drawR_Q _ _ _ _ _ _ _ .nil (h K h1 h2)
end
end Go.Am

set_option linter.unusedSimpArgs false
set_option linter.unusedVariables false
open Go.RowKit
namespace Go.Am
section
variable {C : CallR} {d : Option Nat} {anc : List Nat} {l : List (AOper × List Nat)} {j : Nat} {tr : List (Nat × MF)} {ws bs : List Nat} {dep : List (Nat × List Nat)} {tm : List (Nat × AV)} {bx : List (Nat × List AV)} {hp : List HObj} {df : List (AV × List AV)} {Q : AR → AS → Prop}
theorem R_nil {s : AS} : drawR C [] j tr ws bs s Q = Q .norm s := rfl
theorem R_pop' {o : AOp} (ho : aop d o (vw dep tm bx hp) = match pop d o (vw dep tm bx hp) with | some v => some { v := v } | none => none)
    (hw : drawR C ((⟨d, none, o⟩, anc) :: l) j tr ws bs (AS.mk dep tm bx hp df) Q = op (aop d o (vw dep tm bx hp)) fun e => e.dw = none ∧ drawR C l (j + 1) tr (ws ++ (dtms d ++ keys e.tw)) bs (AS.apply (AS.mk dep tm bx hp df) d e) Q) :
    drawR C ((⟨d, none, o⟩, anc) :: l) j tr ws bs (AS.mk dep tm bx hp df) Q = op (pop d o (vw dep tm bx hp)) fun v => drawR C l (j + 1) tr (ws ++ dtms d) bs (AS.mk dep (putd tm d v) bx hp df) Q := by
  rw [hw, ho]
  cases pop d o (vw dep tm bx hp) with
  | none => rfl
  | some v => simp [op_some, keys, AS.apply, puts]
theorem R_pick (c : X) (a : X) (b : X) : drawR C ((⟨d, none, .pick c a b⟩, anc) :: l) j tr ws bs (AS.mk dep tm bx hp df) Q = op (pop d (.pick c a b) (vw dep tm bx hp)) fun v => drawR C l (j + 1) tr (ws ++ dtms d) bs (AS.mk dep (putd tm d v) bx hp df) Q := R_pop' rfl rfl
theorem R_build (z : List AV) (ps : List (Nat × Nat × X)) : drawR C ((⟨d, none, .build z ps⟩, anc) :: l) j tr ws bs (AS.mk dep tm bx hp df) Q = op (pop d (.build z ps) (vw dep tm bx hp)) fun v => drawR C l (j + 1) tr (ws ++ dtms d) bs (AS.mk dep (putd tm d v) bx hp df) Q := R_pop' rfl rfl
theorem R_nilchk (x : X) : drawR C ((⟨d, none, .nilchk x⟩, anc) :: l) j tr ws bs (AS.mk dep tm bx hp df) Q = op (pop d (.nilchk x) (vw dep tm bx hp)) fun v => drawR C l (j + 1) tr (ws ++ dtms d) bs (AS.mk dep (putd tm d v) bx hp df) Q := R_pop' rfl rfl
theorem R_bin (ty : BT) (o : BinOp) (x : X) (y : X) : drawR C ((⟨d, none, .bin ty o x y⟩, anc) :: l) j tr ws bs (AS.mk dep tm bx hp df) Q = op (pop d (.bin ty o x y) (vw dep tm bx hp)) fun v => drawR C l (j + 1) tr (ws ++ dtms d) bs (AS.mk dep (putd tm d v) bx hp df) Q := R_pop' rfl rfl
theorem R_eqst (ng : Bool) (fs : List (Nat × BT)) (x : X) (y : X) : drawR C ((⟨d, none, .eqst ng fs x y⟩, anc) :: l) j tr ws bs (AS.mk dep tm bx hp df) Q = op (pop d (.eqst ng fs x y) (vw dep tm bx hp)) fun v => drawR C l (j + 1) tr (ws ++ dtms d) bs (AS.mk dep (putd tm d v) bx hp df) Q := R_pop' rfl rfl
theorem R_un (o : UnOp) (x : X) : drawR C ((⟨d, none, .un o x⟩, anc) :: l) j tr ws bs (AS.mk dep tm bx hp df) Q = op (pop d (.un o x) (vw dep tm bx hp)) fun v => drawR C l (j + 1) tr (ws ++ dtms d) bs (AS.mk dep (putd tm d v) bx hp df) Q := R_pop' rfl rfl
theorem R_conv (k : IntKind) (x : X) : drawR C ((⟨d, none, .conv k x⟩, anc) :: l) j tr ws bs (AS.mk dep tm bx hp df) Q = op (pop d (.conv k x) (vw dep tm bx hp)) fun v => drawR C l (j + 1) tr (ws ++ dtms d) bs (AS.mk dep (putd tm d v) bx hp df) Q := R_pop' rfl rfl
theorem R_b2s (x : X) : drawR C ((⟨d, none, .b2s x⟩, anc) :: l) j tr ws bs (AS.mk dep tm bx hp df) Q = op (pop d (.b2s x) (vw dep tm bx hp)) fun v => drawR C l (j + 1) tr (ws ++ dtms d) bs (AS.mk dep (putd tm d v) bx hp df) Q := R_pop' rfl rfl
theorem R_mkif (t : TypeId) (x : X) : drawR C ((⟨d, none, .mkif t x⟩, anc) :: l) j tr ws bs (AS.mk dep tm bx hp df) Q = op (pop d (.mkif t x) (vw dep tm bx hp)) fun v => drawR C l (j + 1) tr (ws ++ dtms d) bs (AS.mk dep (putd tm d v) bx hp df) Q := R_pop' rfl rfl
theorem R_mkfn (f : FuncId) (cs : List X) : drawR C ((⟨d, none, .mkfn f cs⟩, anc) :: l) j tr ws bs (AS.mk dep tm bx hp df) Q = op (pop d (.mkfn f cs) (vw dep tm bx hp)) fun v => drawR C l (j + 1) tr (ws ++ dtms d) bs (AS.mk dep (putd tm d v) bx hp df) Q := R_pop' rfl rfl
theorem R_slcS (x : X) (lo : Option X) (hi : Option X) : drawR C ((⟨d, none, .slcS x lo hi⟩, anc) :: l) j tr ws bs (AS.mk dep tm bx hp df) Q = op (pop d (.slcS x lo hi) (vw dep tm bx hp)) fun v => drawR C l (j + 1) tr (ws ++ dtms d) bs (AS.mk dep (putd tm d v) bx hp df) Q := R_pop' rfl rfl
theorem R_slc (x : X) (lo : Option X) (hi : Option X) (sz : Nat) : drawR C ((⟨d, none, .slc x lo hi sz⟩, anc) :: l) j tr ws bs (AS.mk dep tm bx hp df) Q = op (pop d (.slc x lo hi sz) (vw dep tm bx hp)) fun v => drawR C l (j + 1) tr (ws ++ dtms d) bs (AS.mk dep (putd tm d v) bx hp df) Q := R_pop' rfl rfl
theorem R_faddr (x : X) (off : Nat) : drawR C ((⟨d, none, .faddr x off⟩, anc) :: l) j tr ws bs (AS.mk dep tm bx hp df) Q = op (pop d (.faddr x off) (vw dep tm bx hp)) fun v => drawR C l (j + 1) tr (ws ++ dtms d) bs (AS.mk dep (putd tm d v) bx hp df) Q := R_pop' rfl rfl
theorem R_fld (x : X) (off : Nat) (n : Nat) (ag : Bool) : drawR C ((⟨d, none, .fld x off n ag⟩, anc) :: l) j tr ws bs (AS.mk dep tm bx hp df) Q = op (pop d (.fld x off n ag) (vw dep tm bx hp)) fun v => drawR C l (j + 1) tr (ws ++ dtms d) bs (AS.mk dep (putd tm d v) bx hp df) Q := R_pop' rfl rfl
theorem R_iaddr (x : X) (ix : X) (sz : Nat) : drawR C ((⟨d, none, .iaddr x ix sz⟩, anc) :: l) j tr ws bs (AS.mk dep tm bx hp df) Q = op (pop d (.iaddr x ix sz) (vw dep tm bx hp)) fun v => drawR C l (j + 1) tr (ws ++ dtms d) bs (AS.mk dep (putd tm d v) bx hp df) Q := R_pop' rfl rfl
theorem R_iaddrA (x : X) (ix : X) (ln : Nat) (sz : Nat) : drawR C ((⟨d, none, .iaddrA x ix ln sz⟩, anc) :: l) j tr ws bs (AS.mk dep tm bx hp df) Q = op (pop d (.iaddrA x ix ln sz) (vw dep tm bx hp)) fun v => drawR C l (j + 1) tr (ws ++ dtms d) bs (AS.mk dep (putd tm d v) bx hp df) Q := R_pop' rfl rfl
theorem R_idxS (x : X) (ix : X) : drawR C ((⟨d, none, .idxS x ix⟩, anc) :: l) j tr ws bs (AS.mk dep tm bx hp df) Q = op (pop d (.idxS x ix) (vw dep tm bx hp)) fun v => drawR C l (j + 1) tr (ws ++ dtms d) bs (AS.mk dep (putd tm d v) bx hp df) Q := R_pop' rfl rfl
theorem R_idxA (x : X) (ix : X) (ln : Nat) (sz : Nat) (ag : Bool) : drawR C ((⟨d, none, .idxA x ix ln sz ag⟩, anc) :: l) j tr ws bs (AS.mk dep tm bx hp df) Q = op (pop d (.idxA x ix ln sz ag) (vw dep tm bx hp)) fun v => drawR C l (j + 1) tr (ws ++ dtms d) bs (AS.mk dep (putd tm d v) bx hp df) Q := R_pop' rfl rfl
theorem R_tassert (x : X) (t : TypeId) (z : AV) (ok : Bool) : drawR C ((⟨d, none, .tassert x t z ok⟩, anc) :: l) j tr ws bs (AS.mk dep tm bx hp df) Q = op (pop d (.tassert x t z ok) (vw dep tm bx hp)) fun v => drawR C l (j + 1) tr (ws ++ dtms d) bs (AS.mk dep (putd tm d v) bx hp df) Q := R_pop' rfl rfl
theorem R_extr (x : X) (i : Nat) : drawR C ((⟨d, none, .extr x i⟩, anc) :: l) j tr ws bs (AS.mk dep tm bx hp df) Q = op (pop d (.extr x i) (vw dep tm bx hp)) fun v => drawR C l (j + 1) tr (ws ++ dtms d) bs (AS.mk dep (putd tm d v) bx hp df) Q := R_pop' rfl rfl
theorem R_len (st : Bool) (x : X) : drawR C ((⟨d, none, .len st x⟩, anc) :: l) j tr ws bs (AS.mk dep tm bx hp df) Q = op (pop d (.len st x) (vw dep tm bx hp)) fun v => drawR C l (j + 1) tr (ws ++ dtms d) bs (AS.mk dep (putd tm d v) bx hp df) Q := R_pop' rfl rfl
theorem R_mx (xs : List X) : drawR C ((⟨d, none, .mx xs⟩, anc) :: l) j tr ws bs (AS.mk dep tm bx hp df) Q = op (pop d (.mx xs) (vw dep tm bx hp)) fun v => drawR C l (j + 1) tr (ws ++ dtms d) bs (AS.mk dep (putd tm d v) bx hp df) Q := R_pop' rfl rfl
theorem R_mn (xs : List X) : drawR C ((⟨d, none, .mn xs⟩, anc) :: l) j tr ws bs (AS.mk dep tm bx hp df) Q = op (pop d (.mn xs) (vw dep tm bx hp)) fun v => drawR C l (j + 1) tr (ws ++ dtms d) bs (AS.mk dep (putd tm d v) bx hp df) Q := R_pop' rfl rfl
theorem R_bsf (sz n : Nat) (z : AV) (ps : List (Nat × X)) : drawR C ((⟨d, none, .bslice sz n z ps false⟩, anc) :: l) j tr ws bs (AS.mk dep tm bx hp df) Q = op (pop d (.bslice sz n z ps false) (vw dep tm bx hp)) fun v => drawR C l (j + 1) tr (ws ++ dtms d) bs (AS.mk dep (putd tm d v) bx hp df) Q := R_pop' rfl rfl
theorem R_mvf (x : X) : drawR C ((⟨d, none, .mv x false⟩, anc) :: l) j tr ws bs (AS.mk dep tm bx hp df) Q = op (View.ev (vw dep tm bx hp) x) fun v => okd dep d v.dg = true ∧ drawR C l (j + 1) tr (ws ++ dtms d) bs (AS.mk dep (putd tm d v.dg) bx hp df) Q := by
  rw [R_pop' rfl rfl]
  simp only [pop, View.cp, okv]
  cases View.ev (vw dep tm bx hp) x with
  | none => rfl
  | some v =>
    simp only [Option.map_some, op_some]
    cases okd dep d v.dg <;> simp [op_some, op_none]
theorem R_mvt (x : X) : drawR C ((⟨d, none, .mv x true⟩, anc) :: l) j tr ws bs (AS.mk dep tm bx hp df) Q = op (View.ev (vw dep tm bx hp) x) fun v => okd dep d v = true ∧ drawR C l (j + 1) tr (ws ++ (dtms d ++ keys (left x v))) bs (AS.mk dep (putd (puts tm (left x v)) d v) bx hp df) Q := by
  show op (aop d (.mv x true) (vw dep tm bx hp)) (fun e => e.dw = none ∧ drawR C l (j + 1) tr (ws ++ (dtms d ++ keys e.tw)) bs (AS.apply (AS.mk dep tm bx hp df) d e) Q) = _
  simp only [aop]
  cases View.ev (vw dep tm bx hp) x with
  | none => rfl
  | some v =>
    simp only [op_some]
    cases okd dep d v <;> simp [op_some, op_none, AS.apply]
theorem R_app (x y : X) (sz by_ : Nat) : drawR C ((⟨d, none, .app x y sz by_⟩, anc) :: l) j tr ws bs (AS.mk dep tm bx hp df) Q = op (aop d (.app x y sz by_) (vw dep tm bx hp)) fun e => e.dw = none ∧ drawR C l (j + 1) tr (ws ++ (dtms d ++ keys e.tw)) bs (AS.apply (AS.mk dep tm bx hp df) d e) Q := rfl
theorem R_load (a : X) (n : Nat) (ag : Bool) : drawR C ((⟨d, none, .load a n ag false⟩, anc) :: l) j tr ws bs (AS.mk dep tm bx hp df) Q = op (View.ev (vw dep tm bx hp) a) fun p => op (View.at (vw dep tm bx hp) p n) fun cs => op (mkv ag cs) fun v => mfOf anc (ldF p) tr = true ∧ drawR C l (j + 1) (tr ++ [(j, ldF p)]) (ws ++ dtms d) bs (AS.mk dep (putd tm d v.dg) bx hp df) Q := by
  show (match View.ev (vw dep tm bx hp) a with | none => False | some p => _) = _
  cases View.ev (vw dep tm bx hp) a <;> rfl
theorem R_call (f : FuncId) (xs : List X) : drawR C ((⟨d, none, .call f xs⟩, anc) :: l) j tr ws bs (AS.mk dep tm bx hp df) Q = op (valAll (vw dep tm bx hp) xs) fun vs => ∃ e h', C f vs hp e h' ∧ match e with
          | .ret v => okd dep d v = true ∧
            ((h' = hp ∧ mfOf anc ⟨[], [], true, false⟩ tr = true ∧ drawR C l (j + 1) (tr ++ [(j, ⟨[], [], true, false⟩)]) (ws ++ dtms d) bs (AS.mk dep (putd tm d v) bx hp df) Q) ∨
             (mfOf anc ⟨[], [], true, true⟩ tr = true ∧ drawR C l (j + 1) (tr ++ [(j, ⟨[], [], true, true⟩)]) (ws ++ dtms d) bs (AS.mk dep (putd tm d v) bx h' df) Q))
          | .panic v => mfOf anc ⟨[], [], true, true⟩ tr = true ∧ allAfter j l = true ∧ Q (.panic v) (AS.mk dep (without ws tm) (without bs bx) h' df) := by
  show (match valAll (vw dep tm bx hp) xs with | none => False | some vs => _) = _
  cases valAll (vw dep tm bx hp) xs <;> rfl
theorem R_callp {f : FuncId} {vs : List AV} {v : AV} {q : AEnd → List HObj → Prop} (h : C f vs hp (.ret v) hp) (k : q (.ret v) hp) : ∃ e h', C f vs hp e h' ∧ q e h' := ⟨_, _, h, k⟩
theorem R_alloc (z : List AV) : drawR C ((⟨d, none, .alloc z false⟩, anc) :: l) j tr ws bs (AS.mk dep tm bx hp df) Q = op (aop d (.alloc z false) (vw dep tm bx hp)) fun e => mfOf anc ⟨[], btms e.bw, false, false⟩ tr = true ∧ drawR C l (j + 1) (tr ++ [(j, ⟨[], btms e.bw, false, false⟩)]) (ws ++ (dtms d ++ keys e.tw)) (bs ++ btms e.bw) (AS.apply (AS.mk dep tm bx hp df) d e) Q := rfl
theorem R_alloch (z : List AV) : drawR C ((⟨d, none, .alloc z true⟩, anc) :: l) j tr ws bs (AS.mk dep tm bx hp df) Q = (mfOf anc ⟨[], [], true, true⟩ tr = true ∧ drawR C l (j + 1) (tr ++ [(j, ⟨[], [], true, true⟩)]) (ws ++ dtms d) bs (AS.mk dep (putd tm d (.hptr hp.length 0)) bx (hp ++ [.obj z]) df) Q) := by
  cases d <;> rfl
theorem R_store (a x : X) (n : Nat) : drawR C ((⟨d, none, .store a x n⟩, anc) :: l) j tr ws bs (AS.mk dep tm bx hp df) Q = op (View.ev (vw dep tm bx hp) a) fun p => op (aop d (.store a x n) (vw dep tm bx hp)) fun e => mfOf anc (stF p) tr = true ∧ drawR C l (j + 1) (tr ++ [(j, stF p)]) (ws ++ (dtms d ++ keys e.tw)) (bs ++ btms e.bw) (AS.apply (AS.mk dep tm bx hp df) d e) Q := by
  show (match View.ev (vw dep tm bx hp) a with | none => False | some p => _) = _
  cases View.ev (vw dep tm bx hp) a <;> rfl
theorem R_st (a x : X) (n : Nat) : drawR C ((⟨d, none, .store a x n⟩, anc) :: l) j tr ws bs (AS.mk dep tm bx hp df) Q = op (View.ev (vw dep tm bx hp) a) fun p => op (View.ev (vw dep tm bx hp) x) fun v => (v.isV = true ∧ v.cells.length = n) ∧ op (View.write (vw dep tm bx hp) p v.cells { v := .tup [], tw := left x v }) fun e => mfOf anc (stF p) tr = true ∧ drawR C l (j + 1) (tr ++ [(j, stF p)]) (ws ++ (dtms d ++ keys e.tw)) (bs ++ btms e.bw) (AS.apply (AS.mk dep tm bx hp df) d e) Q := by
  rw [R_store]
  simp only [aop]
  cases View.ev (vw dep tm bx hp) a with
  | none => rfl
  | some p =>
    simp only [op_some]
    cases View.ev (vw dep tm bx hp) x with
    | none => rfl
    | some v =>
      simp only [op_some]
      cases hv : v.isV <;> cases hl : Nat.beq v.cells.length n
      · simp [op_none]
      · simp [op_none]
      · have : ¬ v.cells.length = n := fun e => by rw [e, Nat.beq_refl] at hl; cases hl
        simp [op_none, this]
      · have := nbeq hl
        simp [this]
theorem R_lookup (m k : X) (z : AV) (ok st : Bool) : drawR C ((⟨d, none, .lookup m k z ok st⟩, anc) :: l) j tr ws bs (AS.mk dep tm bx hp df) Q = op (aop d (.lookup m k z ok st) (vw dep tm bx hp)) fun e => mfOf anc ⟨[], [], true, false⟩ tr = true ∧ drawR C l (j + 1) (tr ++ [(j, ⟨[], [], true, false⟩)]) (ws ++ dtms d) bs (AS.apply (AS.mk dep tm bx hp df) d e) Q := rfl
theorem R_panic (x : X) : drawR C ((⟨d, none, .panic x⟩, anc) :: l) j tr ws bs (AS.mk dep tm bx hp df) Q = match View.val (vw dep tm bx hp) x with
        | some (.iface t v) => mfOf anc ⟨[], [], false, true⟩ tr = true ∧ allAfter j l = true ∧ Q (.panic (.iface t v)) (AS.mk dep (without ws tm) (without bs bx) hp df)
        | _ => False := rfl
theorem R_guardN (t : Nat) (want : Bool) (o : AOp) (ho : o.mem = false) : drawR C ((⟨d, some (t, want), o⟩, anc) :: l) j tr ws bs (AS.mk dep tm bx hp df) Q = match guarded (vw dep tm bx hp) (some (t, want)) with
    | none => False
    | some false => drawR C l (j + 1) tr (ws ++ dtms d) bs (AS.mk dep (putd tm d (.tup [])) bx hp df) Q
    | some true => drawR C ((⟨d, none, o⟩, anc) :: l) j tr ws bs (AS.mk dep tm bx hp df) Q := by
  cases hg : guarded (vw dep tm bx hp) (some (t, want)) with
  | none =>
    simp only [drawR]
    rw [show guarded (AS.view (AS.mk dep tm bx hp df)) (some (t, want)) = none from hg]
  | some b =>
    cases b with
    | false =>
      simp only [drawR]
      rw [show guarded (AS.view (AS.mk dep tm bx hp df)) (some (t, want)) = some false from hg]
      simp only [ho]
      rfl
    | true =>
      simp only [drawR]
      rw [show guarded (AS.view (AS.mk dep tm bx hp df)) (some (t, want)) = some true from hg]
      rfl
theorem R_guardM (t : Nat) (want : Bool) (o : AOp) (ho : o.mem = true) : drawR C ((⟨d, some (t, want), o⟩, anc) :: l) j tr ws bs (AS.mk dep tm bx hp df) Q = match guarded (vw dep tm bx hp) (some (t, want)) with
    | none => False
    | some false => ∃ f : MF, o.rb (vw dep tm bx hp) = f.rb ∧ o.rh (vw dep tm bx hp) = f.rh ∧ f.wb = [] ∧ f.wh = false ∧ mfOf anc f tr = true ∧ drawR C l (j + 1) (tr ++ [(j, f)]) (ws ++ dtms d) bs (AS.mk dep (putd tm d (.tup [])) bx hp df) Q
    | some true => drawR C ((⟨d, none, o⟩, anc) :: l) j tr ws bs (AS.mk dep tm bx hp df) Q := by
  cases hg : guarded (vw dep tm bx hp) (some (t, want)) with
  | none =>
    simp only [drawR]
    rw [show guarded (AS.view (AS.mk dep tm bx hp df)) (some (t, want)) = none from hg]
  | some b =>
    cases b with
    | false =>
      simp only [drawR]
      rw [show guarded (AS.view (AS.mk dep tm bx hp df)) (some (t, want)) = some false from hg]
      simp only [ho]
      rfl
    | true =>
      simp only [drawR]
      rw [show guarded (AS.view (AS.mk dep tm bx hp df)) (some (t, want)) = some true from hg]
      rfl
theorem R_guard (t : Nat) (want : Bool) (o : AOp) : drawR C ((⟨d, some (t, want), o⟩, anc) :: l) j tr ws bs (AS.mk dep tm bx hp df) Q = match guarded (vw dep tm bx hp) (some (t, want)) with
    | none => False
    | some false => (match o.mem with
      | false => drawR C l (j + 1) tr (ws ++ dtms d) bs (AS.mk dep (putd tm d (.tup [])) bx hp df) Q
      | true => ∃ f : MF, o.rb (vw dep tm bx hp) = f.rb ∧ o.rh (vw dep tm bx hp) = f.rh ∧ f.wb = [] ∧ f.wh = false ∧ mfOf anc f tr = true ∧ drawR C l (j + 1) (tr ++ [(j, f)]) (ws ++ dtms d) bs (AS.mk dep (putd tm d (.tup [])) bx hp df) Q)
    | some true => drawR C ((⟨d, none, o⟩, anc) :: l) j tr ws bs (AS.mk dep tm bx hp df) Q := by
  cases ho : o.mem with
  | false => exact R_guardN t want o ho
  | true => exact R_guardM t want o ho
theorem gd_t (t : Nat) (want : Bool) : guarded (vw dep tm bx hp) (some (t, want)) = match look tm t with
    | some (.bool b) => some (b == want)
    | some (.tup []) => some false
    | _ => none := rfl
theorem ldF_fptr (e : AV) (o : Nat) : ldF (.fptr e o) = ⟨[], [], false, false⟩ := rfl
theorem ldF_hptr (e : Nat) (o : Nat) : ldF (.hptr e o) = ⟨[], [], true, false⟩ := rfl
theorem ldF_lptr (e : Nat) (o : Nat) : ldF (.lptr e o) = ⟨[e], [], false, false⟩ := rfl
theorem stF_hptr (e : Nat) (o : Nat) : stF (.hptr e o) = ⟨[], [], true, true⟩ := rfl
theorem stF_lptr (e : Nat) (o : Nat) : stF (.lptr e o) = ⟨[e], [e], false, false⟩ := rfl
theorem dtms_some (t : Nat) : dtms (some t) = [t] := rfl
theorem dtms_none : dtms none = [] := rfl
theorem keys_nil : keys [] = [] := rfl
theorem keys_cons (t : Nat) (v : AV) (r : List (Nat × AV)) : keys ((t, v) :: r) = t :: keys r := rfl
theorem dep_mk : (AS.mk dep tm bx hp df).dep = dep := rfl
/-- A variable of the frame's own. -/
theorem W_own {l : List AOper} {b : Nat} (z : List AV) : awpOps C (⟨some b, none, .alloc z false⟩ :: l) (AS.mk dep tm bx hp df) Q = op (look dep b) fun ds => ds.elem b = true ∧ awpOps C l (AS.mk dep (put (puts tm (ds.map (·, AV.undef))) b (.lptr b 0)) (put bx b z) hp df) Q := by
  rw [W_alloc]
  simp only [View.newVar]
  show op (match look dep b with | some l => _ | none => none) _ = _
  cases look dep b with
  | none => rfl
  | some ds =>
    simp only [op_some]
    cases ds.elem b <;> simp [op_some, op_none, AS.apply, putd]
theorem R_own {b : Nat} (z : List AV) : drawR C ((⟨some b, none, .alloc z false⟩, anc) :: l) j tr ws bs (AS.mk dep tm bx hp df) Q = op (look dep b) fun ds => ds.elem b = true ∧ (mfOf anc ⟨[], [b], false, false⟩ tr = true ∧
    drawR C l (j + 1) (tr ++ [(j, ⟨[], [b], false, false⟩)]) (ws ++ ([b] ++ ds)) (bs ++ [b]) (AS.mk dep (put (puts tm (ds.map (·, AV.undef))) b (.lptr b 0)) (put bx b z) hp df) Q) := by
  rw [R_alloc]
  simp only [aop, View.newVar]
  show op (match look dep b with | some l => _ | none => none) _ = _
  cases look dep b with
  | none => rfl
  | some ds =>
    simp only [op_some]
    cases ds.elem b <;> simp [op_some, op_none, AS.apply, putd, keys_undef, btms, dtms]
theorem W_stl {l : List AOper} (a x : X) (n : Nat) {b off : Nat} (ha : View.ev (vw dep tm bx hp) a = some (.lptr b off)) : awpOps C (⟨none, none, .store a x n⟩ :: l) (AS.mk dep tm bx hp df) Q = op (View.ev (vw dep tm bx hp) x) fun v => (v.isV = true ∧ v.cells.length = n) ∧ op (look bx b) fun cs => off + n ≤ cs.length ∧ awpOps C l (AS.mk dep (puts tm (left x v)) (put bx b (splice cs off v.cells)) hp df) Q := by
  rw [W_store, ha, op_some]
  cases View.ev (vw dep tm bx hp) x with
  | none => rfl
  | some v =>
    simp only [op_some, View.write]
    by_cases hv : v.isV = true ∧ v.cells.length = n
    · obtain ⟨h1, h2⟩ := hv
      subst h2
      simp only [h1, true_and]
      show op (match look bx b with | some cs => _ | none => none) _ = _
      cases look bx b with
      | none => rfl
      | some cs =>
        simp only [op_some]
        cases hb : Nat.ble (off + v.cells.length) cs.length with
        | true =>
          have := Nat.le_of_ble_eq_true hb
          simp [op_some, AS.apply, putd, this]
        | false =>
          have : ¬ off + v.cells.length ≤ cs.length := fun h => by rw [Nat.ble_eq_true_of_le h] at hb; cases hb
          simp [op_none, this]
    · simp only [hv, false_and]
end
theorem apply_mk (dep : List (Nat × List Nat)) (tm : List (Nat × AV)) (bx : List (Nat × List AV)) (hp : List HObj) (df : List (AV × List AV)) (d : Option Nat) (v : AV) (tw : List (Nat × AV)) (bw : Option (Nat × List AV)) (hw : Option (List HObj)) (dw : Option (AV × List AV)) :
    AS.apply (AS.mk dep tm bx hp df) d ⟨v, tw, bw, hw, dw⟩ = AS.mk dep (putd (puts tm tw) d v) (match bw with | none => bx | some (b, cs) => put bx b cs) (match hw with | none => hp | some h => h) (match dw with | none => df | some x => x :: df) := rfl
theorem write_lptr (dep : List (Nat × List Nat)) (tm : List (Nat × AV)) (bx : List (Nat × List AV)) (hp : List HObj) (b off : Nat) (new : List AV) (v : AV) (tw : List (Nat × AV)) (bw : Option (Nat × List AV)) (hw : Option (List HObj)) (dw : Option (AV × List AV)) :
    View.write (vw dep tm bx hp) (.lptr b off) new ⟨v, tw, bw, hw, dw⟩ = match look bx b with | some cs => (if off + new.length ≤ cs.length then some ⟨v, tw, some (b, splice cs off new), hw, dw⟩ else none) | none => none := by
  unfold View.write
  show (match look bx b with | some cs => _ | none => none) = _
  cases look bx b with
  | none => rfl
  | some cs =>
    simp only
    cases h : Nat.ble (off + new.length) cs.length with
    | true => rw [if_pos (Nat.le_of_ble_eq_true h)]
    | false => rw [if_neg fun h' => by rw [Nat.ble_eq_true_of_le h'] at h; cases h]
theorem write_hptr (dep : List (Nat × List Nat)) (tm : List (Nat × AV)) (bx : List (Nat × List AV)) (hp : List HObj) (id pos : Nat) (new : List AV) (v : AV) (tw : List (Nat × AV)) (bw : Option (Nat × List AV)) (hw : Option (List HObj)) (dw : Option (AV × List AV)) :
    View.write (vw dep tm bx hp) (.hptr id pos) new ⟨v, tw, bw, hw, dw⟩ = match hp[id]? with | some (.obj cs) => (if pos + new.length ≤ cs.length then some ⟨v, tw, bw, some (hp.set id (.obj (splice cs pos new))), dw⟩ else none) | _ => none := by
  unfold View.write
  show (match hp[id]? with | some (.obj cs) => _ | _ => none) = _
  cases hp[id]? with
  | none => rfl
  | some o =>
    cases o with
    | obj cs =>
      simp only
      cases h : Nat.ble (pos + new.length) cs.length with
      | true => rw [if_pos (Nat.le_of_ble_eq_true h)]
      | false => rw [if_neg fun h' => by rw [Nat.ble_eq_true_of_le h'] at h; cases h]
    | dead => rfl
    | map _ => rfl
theorem newVar_own (dep : List (Nat × List Nat)) (tm : List (Nat × AV)) (bx : List (Nat × List AV)) (hp : List HObj) (b : Nat) (cs : List AV) (tw : List (Nat × AV)) : View.newVar (vw dep tm bx hp) (some b) false cs tw = match look dep b with
    | some l => (match l.elem b with | true => some ⟨.lptr b 0, tw ++ l.map (·, .undef), some (b, cs), none, none⟩ | false => none)
    | none => none := rfl
theorem newVar_heap (dep : List (Nat × List Nat)) (tm : List (Nat × AV)) (bx : List (Nat × List AV)) (hp : List HObj) (d : Option Nat) (cs : List AV) (tw : List (Nat × AV)) : View.newVar (vw dep tm bx hp) d true cs tw = some ⟨.hptr hp.length 0, tw, none, some (hp ++ [.obj cs]), none⟩ := by cases d <;> rfl
theorem splice_def (cs : List AV) (off : Nat) (new : List AV) : splice cs off new = cs.take off ++ new ++ cs.drop (off + new.length) := rfl
theorem btms_some (b : Nat) (cs : List AV) : btms (some (b, cs)) = [b] := rfl
theorem btms_none : btms none = [] := rfl
theorem fillA_nil (s : View) (cs : List AV) : fillA s cs [] = some cs := rfl
theorem fillA_cons (s : View) (cs : List AV) (off n : Nat) (x : X) (r : List (Nat × Nat × X)) : fillA s cs ((off, n, x) :: r) = match s.val x with
    | some v => if v.cells.length = n ∧ off + n ≤ cs.length then fillA s (splice cs off v.cells) r else none
    | none => none := by
  simp only [fillA]
  cases s.val x with
  | none => rfl
  | some v =>
    simp only
    cases h1 : Nat.beq v.cells.length n <;> cases h2 : Nat.ble (off + n) cs.length
    · rw [if_neg fun h => by rw [h.1, Nat.beq_refl] at h1; cases h1]
    · rw [if_neg fun h => by rw [h.1, Nat.beq_refl] at h1; cases h1]
    · rw [if_neg fun h => by rw [Nat.ble_eq_true_of_le h.2] at h2; cases h2]
    · rw [if_pos ⟨nbeq h1, Nat.le_of_ble_eq_true h2⟩]
theorem fillE_nil (s : View) (sz : Nat) (es : List AV) : fillE s sz es [] = some es := rfl
theorem fillE_cons (s : View) (sz : Nat) (es : List AV) (i : Nat) (x : X) (r : List (Nat × X)) : fillE s sz es ((i, x) :: r) = match s.val x with
    | some v => if v.cells.length = sz ∧ i < es.length then fillE s sz (es.set i v) r else none
    | none => none := by
  simp only [fillE]
  cases s.val x with
  | none => rfl
  | some v =>
    simp only
    cases h1 : Nat.beq v.cells.length sz <;> cases h2 : Nat.blt i es.length
    · rw [if_neg fun h => by rw [h.1, Nat.beq_refl] at h1; cases h1]
    · rw [if_neg fun h => by rw [h.1, Nat.beq_refl] at h1; cases h1]
    · rw [if_neg fun h => by rw [show Nat.blt i es.length = true by rw [Nat.blt_eq]; exact h.2] at h2; cases h2]
    · rw [if_pos ⟨nbeq h1, by rw [Nat.blt_eq] at h2; exact h2⟩]
theorem pop_bsf (d : Option Nat) (sz n : Nat) (z : AV) (ps : List (Nat × X)) (s : View) : pop d (.bslice sz n z ps false) s = match fillE s sz (List.replicate n z) ps with | some es => some (.xsl sz es) | none => none := rfl
theorem okv_eq (dep : List (Nat × List Nat)) (d : Option Nat) (v : AV) : okv dep d v = match okd dep d v with | true => some v | false => none := rfl
theorem cells_agg (l : List AV) : AV.cells (.agg l) = l := rfl
theorem cells_int (k : IntKind) (n : Int) : AV.cells (.int k n) = [.int k n] := rfl
theorem cells_bool (b : Bool) : AV.cells (.bool b) = [.bool b] := rfl
theorem cells_str (b : ByteArray) : AV.cells (.str b) = [.str b] := rfl
theorem cells_sl (z : Nat) (l : List AV) : AV.cells (.sl z l) = [.sl z l] := rfl
theorem cells_xsl (z : Nat) (l : List AV) : AV.cells (.xsl z l) = [.xsl z l] := rfl
theorem cells_nsl : AV.cells .nsl = [.nsl] := rfl
theorem dg1_int (k : IntKind) (n : Int) : AV.dg1 (.int k n) = .int k n := rfl
theorem dg1_bool (b : Bool) : AV.dg1 (.bool b) = .bool b := rfl
theorem dg1_str (b : ByteArray) : AV.dg1 (.str b) = .str b := rfl
theorem dg1_sl (z : Nat) (l : List AV) : AV.dg1 (.sl z l) = .sl z l := rfl
theorem dg1_xsl (z : Nat) (l : List AV) : AV.dg1 (.xsl z l) = .sl z l := rfl
theorem dg1_nsl : AV.dg1 .nsl = .nsl := rfl
theorem dgc_of {v : AV} (h : ∀ l, v ≠ .tup l) : v.dgc = v.dg := by cases v <;> first | rfl | exact absurd rfl (h _)
theorem dgc_int (k : IntKind) (n : Int) : AV.dgc (.int k n) = .int k n := rfl
theorem dgc_bool (b : Bool) : AV.dgc (.bool b) = .bool b := rfl
theorem dgc_str (b : ByteArray) : AV.dgc (.str b) = .str b := rfl
theorem dgc_sl (z : Nat) (l : List AV) : AV.dgc (.sl z l) = .sl z l := rfl
theorem dgc_xsl (z : Nat) (l : List AV) : AV.dgc (.xsl z l) = .sl z l := rfl
theorem dgc_nsl : AV.dgc .nsl = .nsl := rfl
theorem dgc_agg (l : List AV) : AV.dgc (.agg l) = .agg (l.map AV.dg1) := rfl
theorem undef_map (l : List Nat) : l.map (·, AV.undef) = l.map (fun t => (t, AV.undef)) := rfl
/-- A call, and what follows. -/
def WCall (C : CallR) (f : FuncId) (vs : List AV) (d : Option Nat) (l : List AOper) (dep : List (Nat × List Nat)) (tm : List (Nat × AV)) (bx : List (Nat × List AV)) (hp : List HObj) (df : List (AV × List AV)) (Q : AR → AS → Prop) : Prop :=
  ∃ e h', C f vs hp e h' ∧ (match e with
    | .ret v => okd dep d v = true ∧ awpOps C l (AS.mk dep (putd tm d v) bx h' df) Q
    | .panic v => Q (.panic v) (AS.mk dep tm bx h' df))
def RCall (C : CallR) (f : FuncId) (vs : List AV) (d : Option Nat) (anc : List Nat) (l : List (AOper × List Nat)) (j : Nat) (tr : List (Nat × MF)) (ws bs : List Nat) (dep : List (Nat × List Nat)) (tm : List (Nat × AV)) (bx : List (Nat × List AV)) (hp : List HObj) (df : List (AV × List AV)) (Q : AR → AS → Prop) : Prop :=
  ∃ e h', C f vs hp e h' ∧ match e with
          | .ret v => okd dep d v = true ∧
            ((h' = hp ∧ mfOf anc ⟨[], [], true, false⟩ tr = true ∧ drawR C l (j + 1) (tr ++ [(j, ⟨[], [], true, false⟩)]) (ws ++ dtms d) bs (AS.mk dep (putd tm d v) bx hp df) Q) ∨
             (mfOf anc ⟨[], [], true, true⟩ tr = true ∧ drawR C l (j + 1) (tr ++ [(j, ⟨[], [], true, true⟩)]) (ws ++ dtms d) bs (AS.mk dep (putd tm d v) bx h' df) Q))
          | .panic v => mfOf anc ⟨[], [], true, true⟩ tr = true ∧ allAfter j l = true ∧ Q (.panic v) (AS.mk dep (without ws tm) (without bs bx) h' df)
section
variable {C : CallR} {d : Option Nat} {anc : List Nat} {j : Nat} {tr : List (Nat × MF)} {ws bs : List Nat} {dep : List (Nat × List Nat)} {tm : List (Nat × AV)} {bx : List (Nat × List AV)} {hp : List HObj} {df : List (AV × List AV)} {Q : AR → AS → Prop} {f : FuncId} {vs : List AV} {v : AV} {h' : List HObj}
theorem W_callk {l : List AOper} (f : FuncId) (xs : List X) : awpOps C (⟨d, none, .call f xs⟩ :: l) (AS.mk dep tm bx hp df) Q = op (valAll (vw dep tm bx hp) xs) fun vs => WCall C f vs d l dep tm bx hp df Q := W_call f xs
theorem R_callk {l : List (AOper × List Nat)} (f : FuncId) (xs : List X) : drawR C ((⟨d, none, .call f xs⟩, anc) :: l) j tr ws bs (AS.mk dep tm bx hp df) Q = op (valAll (vw dep tm bx hp) xs) fun vs => RCall C f vs d anc l j tr ws bs dep tm bx hp df Q := R_call f xs
theorem WCall.ret {l : List AOper} (h : C f vs hp (.ret v) h') (ho : okd dep d v = true) (k : awpOps C l (AS.mk dep (putd tm d v) bx h' df) Q) : WCall C f vs d l dep tm bx hp df Q := ⟨_, _, h, ho, k⟩
theorem WCall.pan {l : List AOper} (h : C f vs hp (.panic v) h') (k : Q (.panic v) (AS.mk dep tm bx h' df)) : WCall C f vs d l dep tm bx hp df Q := ⟨_, _, h, k⟩
theorem RCall.pure {l : List (AOper × List Nat)} (h : C f vs hp (.ret v) hp) (ho : okd dep d v = true) (hm : mfOf anc ⟨[], [], true, false⟩ tr = true) (k : drawR C l (j + 1) (tr ++ [(j, ⟨[], [], true, false⟩)]) (ws ++ dtms d) bs (AS.mk dep (putd tm d v) bx hp df) Q) : RCall C f vs d anc l j tr ws bs dep tm bx hp df Q := ⟨_, _, h, ho, .inl ⟨rfl, hm, k⟩⟩
theorem RCall.ret {l : List (AOper × List Nat)} (h : C f vs hp (.ret v) h') (ho : okd dep d v = true) (hm : mfOf anc ⟨[], [], true, true⟩ tr = true) (k : drawR C l (j + 1) (tr ++ [(j, ⟨[], [], true, true⟩)]) (ws ++ dtms d) bs (AS.mk dep (putd tm d v) bx h' df) Q) : RCall C f vs d anc l j tr ws bs dep tm bx hp df Q := ⟨_, _, h, ho, .inr ⟨hm, k⟩⟩
theorem RCall.pan {l : List (AOper × List Nat)} (h : C f vs hp (.panic v) h') (hm : mfOf anc ⟨[], [], true, true⟩ tr = true) (ha : allAfter j l = true) (k : Q (.panic v) (AS.mk dep (without ws tm) (without bs bx) h' df)) : RCall C f vs d anc l j tr ws bs dep tm bx hp df Q := ⟨_, _, h, hm, ha, k⟩
end
def appV (sz by_ : Nat) (x : X) (v0 : AV) : AV → AV → Option Eff
  | .xsl sz' l, .sl sz'' l' => if (sz' = sz ∨ l = []) ∧ (sz'' = sz ∨ l' = []) ∧ (l.length + l'.length) * by_ ≤ 140737488355328 then some { v := .xsl sz (l ++ l'), tw := left x v0 } else none
  | _, _ => none
theorem app_eq (d : Option Nat) (x y : X) (sz by_ : Nat) (s : View) : aop d (.app x y sz by_) s = match s.ev x with
    | some v0 => (match s.val y with
      | some u => appV sz by_ x v0 (v0.asX sz) (u.asS sz)
      | none => none)
    | none => none := by
  simp only [aop]
  cases s.ev x with
  | none => rfl
  | some v0 =>
    cases s.val y with
    | none => rfl
    | some u =>
      simp only [Option.map_some]
      generalize u.asS sz = b
      cases b with
      | sl sz'' l' =>
        simp only
        generalize v0.asX sz = a
        cases a with
        | xsl sz' l =>
          simp only [appV]
          have e1 : (Nat.beq sz' sz || l.isEmpty) = decide (sz' = sz ∨ l = []) := by
            rw [Bool.eq_iff_iff]; simp
          have e2 : (Nat.beq sz'' sz || l'.isEmpty) = decide (sz'' = sz ∨ l' = []) := by
            rw [Bool.eq_iff_iff]; simp
          rw [e1, e2]
          by_cases h1 : sz' = sz ∨ l = [] <;> by_cases h2 : sz'' = sz ∨ l' = [] <;> by_cases h3 : (l.length + l'.length) * by_ ≤ 140737488355328 <;> simp [h1, h2, h3]
        | _ => rfl
      | _ => generalize v0.asX sz = a; cases a <;> rfl
theorem appV_ok (sz by_ : Nat) (x : X) (v0 : AV) (l l' : List AV) : appV sz by_ x v0 (.xsl sz l) (.sl sz l') = if (l.length + l'.length) * by_ ≤ 140737488355328 then some { v := .xsl sz (l ++ l'), tw := left x v0 } else none := by simp [appV]
theorem asX_nsl (sz : Nat) : AV.asX sz .nsl = .xsl sz [] := rfl
theorem asX_xs (sz z : Nat) (l : List AV) : AV.asX sz (.xsl z l) = .xsl z l := rfl
theorem asS_nsl (sz : Nat) : AV.asS sz .nsl = .sl sz [] := rfl
theorem asS_sl (sz z : Nat) (l : List AV) : AV.asS sz (.sl z l) = .sl z l := rfl
def nilV (dep : List (Nat × List Nat)) (d : Option Nat) (v : AV) : Option AV := match v with
  | .hptr _ _ | .lptr _ _ | .fptr _ _ | .fn _ _ | .iface _ _ => okv dep d v
  | _ => none
theorem pop_nilchk (d : Option Nat) (x : X) (s : View) : pop d (.nilchk x) s = match s.cp x with | some v => nilV s.dep d v | none => none := by
  simp only [pop]
  cases s.cp x with
  | none => rfl
  | some v => cases v <;> rfl
theorem nilV_hptr (dep : List (Nat × List Nat)) (d : Option Nat) (i p : Nat) : nilV dep d (.hptr i p) = some (.hptr i p) := rfl
theorem nilV_lptr (dep : List (Nat × List Nat)) (d : Option Nat) (i p : Nat) : nilV dep d (.lptr i p) = okv dep d (.lptr i p) := rfl
theorem nilV_fptr (dep : List (Nat × List Nat)) (d : Option Nat) (e : AV) (p : Nat) : nilV dep d (.fptr e p) = some (.fptr e p) := rfl
section
variable {α β : Type}
theorem z_elem_cons (a b : Nat) (l : List Nat) : List.elem a (b :: l) = if a = b then true else List.elem a l := by
  by_cases h : a = b
  · subst h; simp
  · simp [h]
theorem z_elem_nil (a : Nat) : List.elem a [] = false := rfl
theorem z_okd (dep : List (Nat × List Nat)) (t b o : Nat) : okd dep (some t) (.lptr b o) = match look dep b with | some l => l.elem t | none => false := by
  simp only [okd]
  cases look dep b <;> rfl
theorem z_bff : (false == false) = true := rfl
theorem z_btt : (true == true) = true := rfl
theorem z_btf : (true == false) = false := rfl
theorem z_bft : (false == true) = false := rfl
theorem z_nn {γ : Type} (a : γ) : (a ≠ a) = False := by simp
theorem z_map_some (f : α → β) (a : α) : Option.map f (some a) = some (f a) := rfl
theorem z_map_none (f : α → β) : Option.map f none = none := rfl
theorem z_len_cons (a : α) (l : List α) : (a :: l).length = l.length + 1 := rfl
theorem z_len_nil : ([] : List α).length = 0 := rfl
theorem z_drop_succ (a : α) (l : List α) (n : Nat) : (a :: l).drop (n + 1) = l.drop n := rfl
theorem z_drop_zero (l : List α) : l.drop 0 = l := rfl
theorem z_take_succ (a : α) (l : List α) (n : Nat) : (a :: l).take (n + 1) = a :: l.take n := rfl
theorem z_take_zero (l : List α) : l.take 0 = [] := rfl
theorem z_nil_app (l : List α) : [] ++ l = l := rfl
theorem z_app_nil (l : List α) : l ++ [] = l := List.append_nil l
theorem z_cons_app (a : α) (l m : List α) : (a :: l) ++ m = a :: (l ++ m) := rfl
theorem z_lmap_cons (f : α → β) (a : α) (l : List α) : List.map f (a :: l) = f a :: List.map f l := rfl
theorem z_lmap_nil (f : α → β) : List.map f [] = [] := rfl
theorem z_drop_nil (n : Nat) : ([] : List α).drop n = [] := List.drop_nil
theorem z_take_nil (n : Nat) : ([] : List α).take n = [] := List.take_nil
theorem z_get_zero (a : α) (l : List α) : (a :: l)[0]? = some a := rfl
theorem z_get_succ (a : α) (l : List α) (n : Nat) : (a :: l)[n + 1]? = l[n]? := by simp
theorem z_rep_succ (a : α) (n : Nat) : List.replicate (n + 1) a = a :: List.replicate n a := rfl
theorem z_rep_zero (a : α) : List.replicate 0 a = [] := rfl
theorem z_set_zero (a b : α) (l : List α) : (a :: l).set 0 b = b :: l := rfl
theorem z_set_succ (a b : α) (l : List α) (n : Nat) : (a :: l).set (n + 1) b = a :: l.set n b := rfl
end
set_option linter.defProp false
def eng := And.intro @W_nilchk <| And.intro @R_nilchk <| And.intro @pop_nilchk <| And.intro @nilV_hptr <| And.intro @nilV_lptr <| And.intro @nilV_fptr <| And.intro @W_mkmap <| And.intro @R_guard <| And.intro @W_app <| And.intro @R_app <| And.intro @app_eq <| And.intro @appV_ok <| And.intro @asX_nsl <| And.intro @asX_xs <| And.intro @asS_nsl <| And.intro @asS_sl <| And.intro @R_own <| And.intro @W_nil <| And.intro @W_mvf <| And.intro @W_mvt <| And.intro @W_pick <| And.intro @W_build <| And.intro @W_bin <| And.intro @W_un <| And.intro @W_conv <| And.intro @W_mkif <| And.intro @W_faddr <| And.intro @W_fld <| And.intro @W_iaddr <| And.intro @W_extr <| And.intro @W_len <| And.intro @W_load <| And.intro @W_callk <| And.intro @W_guard <| And.intro @W_panic <| And.intro @W_own <| And.intro @W_bsf <| And.intro @W_eqst <| And.intro @R_nil <| And.intro @R_mvf <| And.intro @R_mvt <| And.intro @R_pick <| And.intro @R_build <| And.intro @R_bin <| And.intro @R_un <| And.intro @R_conv <| And.intro @R_mkif <| And.intro @R_faddr <| And.intro @R_fld <| And.intro @R_iaddr <| And.intro @R_extr <| And.intro @R_len <| And.intro @R_load <| And.intro @R_callk <| And.intro @R_bsf <| And.intro @ldF_fptr <| And.intro @ldF_lptr <| And.intro @ldF_hptr <| And.intro @dtms_some <| And.intro @dtms_none <| And.intro @keys_nil <| And.intro @keys_cons <| And.intro @gd_t <| And.intro @pop_pick <| And.intro @pop_build <| And.intro @pop_bin <| And.intro @pop_un <| And.intro @pop_conv <| And.intro @pop_mkif <| And.intro @pop_faddr <| And.intro @pop_fld <| And.intro @pop_iaddr <| And.intro @pop_extr <| And.intro @pop_len <| And.intro @cp_t <| And.intro @cp_c <| And.intro @val_t <| And.intro @val_c <| And.intro @ev_t <| And.intro @ev_c <| And.intro @valAll_nil <| And.intro @valAll_cons <| And.intro @at_fptr <| And.intro @at_lptr <| And.intro @at_hptr <| And.intro @win <| And.intro @mkv_t <| And.intro @mkv_f <| And.intro @look_cons <| And.intro @look_nil <| And.intro @put_cons <| And.intro @put_nil <| And.intro @putd_some <| And.intro @putd_none <| And.intro @puts_nil <| And.intro @puts_cons <| And.intro @leftT <| And.intro @leftC <| And.intro @only_cons <| And.intro @only_nil <| And.intro @keep_mk <| And.intro @op_some <| And.intro @op_none <| And.intro @dg_int <| And.intro @dg_bool <| And.intro @dg_str <| And.intro @dg_sl <| And.intro @dg_xsl <| And.intro @dg_nsl <| And.intro @dg_fptr <| And.intro @dg_hptr <| And.intro @dg_lptr <| And.intro @dg_tup <| And.intro @okd_of <| And.intro @okd_tup <| And.intro @isV_int <| And.intro @isV_bool <| And.intro @isV_str <| And.intro @isV_sl <| And.intro @isV_xsl <| And.intro @isV_nsl <| And.intro @isV_agg <| And.intro @isV_fptr <| And.intro @isV_hptr <| And.intro @chk_of <| And.intro @okv_eq <| And.intro @abin_add <| And.intro @abin_sub <| And.intro @abin_eql <| And.intro @abin_neq <| And.intro @abin_lss <| And.intro @abin_leq <| And.intro @abin_gtr <| And.intro @abin_geq <| And.intro @abin_seql <| And.intro @abin_sneq <| And.intro @W_store <| And.intro @W_box <| And.intro @write_lptr <| And.intro @write_hptr <| And.intro @apply_mk <| And.intro @newVar_own <| And.intro @newVar_heap <| And.intro @splice_def <| And.intro @btms_some <| And.intro @btms_none <| And.intro @cells_agg <| And.intro @cells_int <| And.intro @cells_bool <| And.intro @cells_str <| And.intro @cells_sl <| And.intro @cells_xsl <| And.intro @cells_nsl <| And.intro @dg_agg <| And.intro @dg1_int <| And.intro @dg1_bool <| And.intro @dg1_str <| And.intro @dg1_sl <| And.intro @dg1_xsl <| And.intro @dg1_nsl <| And.intro @dgc_int <| And.intro @dgc_bool <| And.intro @dgc_str <| And.intro @dgc_sl <| And.intro @dgc_xsl <| And.intro @dgc_nsl <| And.intro @dgc_agg <| And.intro @R_st <| And.intro @stF_lptr <| And.intro @stF_hptr <| And.intro @fillA_nil <| And.intro @fillA_cons <| And.intro @fillE_nil <| And.intro @fillE_cons <| @pop_bsf
def engc := And.intro @z_elem_cons <| And.intro @z_elem_nil <| And.intro @z_okd <| And.intro @z_bff <| And.intro @z_btt <| And.intro @z_btf <| And.intro @z_bft <| And.intro @z_nn <| And.intro @z_map_some <| And.intro @z_map_none <| And.intro @z_len_cons <| And.intro @z_len_nil <| And.intro @z_drop_succ <| And.intro @z_drop_zero <| And.intro @z_take_succ <| And.intro @z_take_zero <| And.intro @z_nil_app <| And.intro @z_app_nil <| And.intro @z_cons_app <| And.intro @z_lmap_cons <| And.intro @z_lmap_nil <| And.intro @z_drop_nil <| And.intro @z_take_nil <| And.intro @z_get_zero <| And.intro @z_get_succ <| And.intro @z_rep_succ <| And.intro @z_rep_zero <| And.intro @z_set_zero <| And.intro @z_set_succ <| And.intro @Nat.beq_refl <| And.intro @Int.toNat_natCast <| And.intro @Int.natCast_nonneg <| And.intro @Nat.zero_add <| And.intro @Nat.add_zero <| And.intro @Nat.le_refl <| @Nat.lt_add_one
def engd := And.intro @dg_int <| And.intro @dg_bool <| And.intro @dg_str <| And.intro @dg_sl <| And.intro @dg_xsl <| And.intro @dg_nsl <| And.intro @dg_fptr <| And.intro @dg_hptr <| And.intro @dg_lptr <| And.intro @dg_tup <| And.intro @dg_agg <| And.intro @dgc_int <| And.intro @dgc_bool <| And.intro @dgc_str <| And.intro @dgc_sl <| And.intro @dgc_xsl <| And.intro @dgc_nsl <| And.intro @dgc_agg <| And.intro @dg1_int <| And.intro @dg1_bool <| And.intro @dg1_str <| And.intro @dg1_sl <| And.intro @dg1_xsl <| @dg1_nsl
end Go.Am

set_option linter.unusedSimpArgs false
set_option linter.unusedVariables false
namespace Go.Am

/-! ### Programs as data -/
inductive TExpr where
  | mk (kind : Int) (name : ByteArray) (num : Int) (l : List TExpr)
inductive TStmt where
  | mk (kind : Int) (name proc : ByteArray) (num : Int) (e : List TExpr) (body els : List TStmt)
structure TParam where
  name : ByteArray
  type : Int
structure TProc where
  name : ByteArray
  params : List TParam
  type : Int
  body : List TStmt
structure TVar where
  name : ByteArray
  type : Int
  size : Int
  lo : Int
  hi : Int
def TExpr.kind : TExpr → Int | .mk k _ _ _ => k
def TExpr.name : TExpr → ByteArray | .mk _ n _ _ => n
def TExpr.num : TExpr → Int | .mk _ _ m _ => m
def TExpr.l : TExpr → List TExpr | .mk _ _ _ l => l
def TStmt.kind : TStmt → Int | .mk k _ _ _ _ _ _ => k
def TStmt.name : TStmt → ByteArray | .mk _ n _ _ _ _ _ => n
def TStmt.proc : TStmt → ByteArray | .mk _ _ p _ _ _ _ => p
def TStmt.num : TStmt → Int | .mk _ _ _ m _ _ _ => m
def TStmt.e : TStmt → List TExpr | .mk _ _ _ _ e _ _ => e
def TStmt.body : TStmt → List TStmt | .mk _ _ _ _ _ b _ => b
def TStmt.els : TStmt → List TStmt | .mk _ _ _ _ _ _ b => b
mutual
def exprV : TExpr → AV
  | .mk k n m l => .agg [.int .i64 k, .str n, .int .i64 m, .sl 4 (exprVs l)]
def exprVs : List TExpr → List AV
  | [] => []
  | x :: l => exprV x :: exprVs l
end
mutual
def stmtV : TStmt → AV
  | .mk k n p m e b c => .agg [.int .i64 k, .str n, .str p, .int .i64 m, .sl 4 (exprVs e), .sl 7 (stmtVs b), .sl 7 (stmtVs c)]
def stmtVs : List TStmt → List AV
  | [] => []
  | x :: l => stmtV x :: stmtVs l
end
def paramV (p : TParam) : AV := .agg [.str p.name, .int .i64 p.type]
def procV (p : TProc) : AV := .agg [.str p.name, .sl 2 (p.params.map paramV), .int .i64 p.type, .sl 7 (stmtVs p.body)]
def varV (v : TVar) : AV := .agg [.str v.name, .int .i64 v.type, .int .i64 v.size, .int .i64 v.lo, .int .i64 v.hi]
theorem exprVs_map (l : List TExpr) : exprVs l = l.map exprV := by
  induction l with
  | nil => rfl
  | cons x l ih => simp [exprVs, ih]
theorem stmtVs_map (l : List TStmt) : stmtVs l = l.map stmtV := by
  induction l with
  | nil => rfl
  | cons x l ih => simp [stmtVs, ih]
theorem exprV_cells (x : TExpr) : (exprV x).cells = [.int .i64 x.kind, .str x.name, .int .i64 x.num, .sl 4 (exprVs x.l)] := by cases x; rfl
theorem stmtV_cells (x : TStmt) : (stmtV x).cells = [.int .i64 x.kind, .str x.name, .str x.proc, .int .i64 x.num, .sl 4 (exprVs x.e), .sl 7 (stmtVs x.body), .sl 7 (stmtVs x.els)] := by cases x; rfl
theorem paramV_cells (x : TParam) : (paramV x).cells = [.str x.name, .int .i64 x.type] := rfl
theorem procV_cells (p : TProc) : (procV p).cells = [.str p.name, .sl 2 (p.params.map paramV), .int .i64 p.type, .sl 7 (stmtVs p.body)] := rfl
theorem varV_cells (v : TVar) : (varV v).cells = [.str v.name, .int .i64 v.type, .int .i64 v.size, .int .i64 v.lo, .int .i64 v.hi] := rfl
theorem exprV_agg (x : TExpr) : AV.agg [.int .i64 x.kind, .str x.name, .int .i64 x.num, .sl 4 (exprVs x.l)] = exprV x := by cases x; rfl
theorem stmtV_agg (x : TStmt) : AV.agg [.int .i64 x.kind, .str x.name, .str x.proc, .int .i64 x.num, .sl 4 (exprVs x.e), .sl 7 (stmtVs x.body), .sl 7 (stmtVs x.els)] = stmtV x := by cases x; rfl
theorem paramV_agg (x : TParam) : AV.agg [.str x.name, .int .i64 x.type] = paramV x := rfl
theorem procV_agg (p : TProc) : AV.agg [.str p.name, .sl 2 (p.params.map paramV), .int .i64 p.type, .sl 7 (stmtVs p.body)] = procV p := rfl
theorem varV_agg (v : TVar) : AV.agg [.str v.name, .int .i64 v.type, .int .i64 v.size, .int .i64 v.lo, .int .i64 v.hi] = varV v := rfl
theorem exprV_dg (x : TExpr) : (exprV x).dg = exprV x := by cases x; rfl
theorem stmtV_dg (x : TStmt) : (stmtV x).dg = stmtV x := by cases x; rfl
theorem paramV_dg (x : TParam) : (paramV x).dg = paramV x := rfl
theorem procV_dg (x : TProc) : (procV x).dg = procV x := rfl
theorem varV_dg (x : TVar) : (varV x).dg = varV x := rfl
theorem exprV_isV (x : TExpr) : (exprV x).isV = true := by cases x; rfl
theorem stmtV_isV (x : TStmt) : (stmtV x).isV = true := by cases x; rfl
theorem paramV_isV (x : TParam) : (paramV x).isV = true := by simp [paramV, procV, varV, AV.isV]
theorem procV_isV (x : TProc) : (procV x).isV = true := by simp [paramV, procV, varV, AV.isV]
theorem varV_isV (x : TVar) : (varV x).isV = true := by simp [paramV, procV, varV, AV.isV]
theorem exprV_dgc (x : TExpr) : (exprV x).dgc = exprV x := by cases x; rfl
theorem stmtV_dgc (x : TStmt) : (stmtV x).dgc = stmtV x := by cases x; rfl
theorem paramV_dgc (x : TParam) : (paramV x).dgc = paramV x := rfl
theorem procV_dgc (x : TProc) : (procV x).dgc = procV x := rfl
theorem varV_dgc (x : TVar) : (varV x).dgc = varV x := rfl
theorem exprVs_len (l : List TExpr) : (exprVs l).length = l.length := by rw [exprVs_map]; simp
theorem stmtVs_len (l : List TStmt) : (stmtVs l).length = l.length := by rw [stmtVs_map]; simp
theorem exprVs_get (l : List TExpr) (i : Nat) : (exprVs l)[i]? = l[i]?.map exprV := by rw [exprVs_map]; simp
theorem stmtVs_get (l : List TStmt) (i : Nat) : (stmtVs l)[i]? = l[i]?.map stmtV := by rw [stmtVs_map]; simp
mutual
/-- How many statements there are. -/
def TStmt.count : TStmt → Nat
  | .mk _ _ _ _ _ b c => 1 + (countAll b + countAll c)
def countAll : List TStmt → Nat
  | [] => 0
  | s :: l => s.count + countAll l
end
theorem TStmt.count_eq (s : TStmt) : s.count = 1 + (countAll s.body + countAll s.els) := by cases s; rfl
theorem countAll_app (a b : List TStmt) : countAll (a ++ b) = countAll a + countAll b := by
  induction a with
  | nil => simp [countAll]
  | cons x a ih => simp [countAll, ih]; omega
theorem take_succ_get {α : Type} {l : List α} {k : Nat} {x : α} (h : l[k]? = some x) : l.take (k + 1) = l.take k ++ [x] := by
  rw [List.take_add_one, h]
  rfl
theorem countAll_take {l : List TStmt} {k : Nat} {x : TStmt} (h : l[k]? = some x) : countAll (l.take (k + 1)) = countAll (l.take k) + x.count := by
  rw [take_succ_get h, countAll_app]
  simp [countAll]
theorem countAll_le (l : List TStmt) (k : Nat) : countAll (l.take k) ≤ countAll l := by
  have := countAll_app (l.take k) (l.drop k)
  rw [List.take_append_drop] at this
  omega
theorem get_some {α : Type} {l : List α} {k : Nat} (h : k < l.length) : ∃ x, l[k]? = some x := ⟨l[k], by simp [List.getElem?_eq_getElem h]⟩
theorem len_le_count (l : List TStmt) : l.length ≤ countAll l := by
  induction l with
  | nil => simp
  | cons x l ih => have := TStmt.count_eq x; simp only [List.length_cons, countAll]; omega
set_option linter.defProp false
def engt := And.intro @exprV_cells <| And.intro @stmtV_cells <| And.intro @paramV_cells <| And.intro @procV_cells <| And.intro @varV_cells <| And.intro @exprV_dg <| And.intro @stmtV_dg <| And.intro @paramV_dg <| And.intro @procV_dg <| And.intro @varV_dg <| And.intro @exprV_isV <| And.intro @stmtV_isV <| And.intro @paramV_isV <| And.intro @procV_isV <| And.intro @varV_isV <| And.intro @exprVs_len <| And.intro @stmtVs_len <| And.intro @exprVs_get <| And.intro @stmtVs_get <| And.intro @stmtV_agg <| And.intro @exprV_agg <| And.intro @paramV_agg <| And.intro @procV_agg <| And.intro @varV_agg <| And.intro @exprV_dgc <| And.intro @stmtV_dgc <| And.intro @paramV_dgc <| And.intro @procV_dgc <| @varV_dgc
end Go.Am

set_option linter.unusedSimpArgs false
set_option linter.unusedVariables false
namespace Go.Am

/-! ### Statements by marks -/
mutual
def TStmt.rows : TStmt → Int → Int → List (TStmt × Int)
  | .mk k n p m e b c, last, i => (.mk k n p m e b c, last) :: (rowsAll b (i + 1 + countAll b - 1) (i + 1) ++ rowsAll c (i + 1 + countAll b + countAll c - 1) (i + 1 + countAll b))
def rowsAll : List TStmt → Int → Int → List (TStmt × Int)
  | [], _, _ => []
  | s :: l, last, i => s.rows last i ++ rowsAll l last (i + s.count)
end
mutual
def TStmt.flat : TStmt → List TStmt
  | .mk k n p m e b c => .mk k n p m e b c :: (flatAll b ++ flatAll c)
def flatAll : List TStmt → List TStmt
  | [] => []
  | s :: l => s.flat ++ flatAll l
end
theorem TStmt.flat_eq (s : TStmt) : s.flat = s :: (flatAll s.body ++ flatAll s.els) := by cases s; rfl
theorem TStmt.rows_eq (s : TStmt) (last i : Int) : s.rows last i = (s, last) :: (rowsAll s.body (i + 1 + countAll s.body - 1) (i + 1) ++ rowsAll s.els (i + 1 + countAll s.body + countAll s.els - 1) (i + 1 + countAll s.body)) := by cases s; rfl
mutual
theorem TStmt.flat_rows : ∀ (s : TStmt) (last i : Int), (s.rows last i).map (·.1) = s.flat
  | .mk k n p m e b c, last, i => by simp only [TStmt.rows, TStmt.flat, List.map_cons, List.map_append, flat_rowsAll]
theorem flat_rowsAll : ∀ (l : List TStmt) (last i : Int), (rowsAll l last i).map (·.1) = flatAll l
  | [], _, _ => rfl
  | s :: l, last, i => by simp only [rowsAll, flatAll, List.map_append, TStmt.flat_rows s, flat_rowsAll l]
end
mutual
theorem TStmt.flat_len : ∀ s : TStmt, s.flat.length = s.count
  | .mk k n p m e b c => by simp only [TStmt.flat, TStmt.count, List.length_cons, List.length_append, flatAll_len]; omega
theorem flatAll_len : ∀ l : List TStmt, (flatAll l).length = countAll l
  | [] => rfl
  | s :: l => by simp only [flatAll, countAll, List.length_append, TStmt.flat_len s, flatAll_len l]
end
theorem rowsAll_len (l : List TStmt) (last i : Int) : (rowsAll l last i).length = countAll l := by
  rw [← flatAll_len, ← flat_rowsAll l last i, List.length_map]
theorem rowsAll_app (a b : List TStmt) (last i : Int) : rowsAll (a ++ b) last i = rowsAll a last i ++ rowsAll b last (i + countAll a) := by
  induction a generalizing i with
  | nil => simp [rowsAll, countAll]
  | cons s a ih => simp only [List.cons_append, rowsAll, ih, List.append_assoc, countAll]; congr 3; omega
theorem rowsAll_take {l : List TStmt} {k : Nat} {x : TStmt} (h : l[k]? = some x) (last i : Int) : rowsAll (l.take (k + 1)) last i = rowsAll (l.take k) last i ++ x.rows last (i + countAll (l.take k)) := by
  rw [take_succ_get h, rowsAll_app]
  simp [rowsAll]
def itemV (x : TStmt × Int) : AV := .agg [.int .i64 x.1.kind, .str x.1.name, .str x.1.proc, .int .i64 x.1.num, .sl 4 (exprVs x.1.e), .sl 7 (stmtVs x.1.body), .sl 7 (stmtVs x.1.els), .int .i64 x.2]
def itemsV (l : List (TStmt × Int)) : List AV := l.map itemV
theorem itemsV_len (l : List (TStmt × Int)) : (itemsV l).length = l.length := by simp [itemsV]
theorem itemsV_get (l : List (TStmt × Int)) (i : Nat) : (itemsV l)[i]? = l[i]?.map itemV := by simp [itemsV]
theorem itemsV_app (a b : List (TStmt × Int)) : itemsV (a ++ b) = itemsV a ++ itemsV b := by simp [itemsV]
theorem itemV_cells (x : TStmt × Int) : (itemV x).cells = [.int .i64 x.1.kind, .str x.1.name, .str x.1.proc, .int .i64 x.1.num, .sl 4 (exprVs x.1.e), .sl 7 (stmtVs x.1.body), .sl 7 (stmtVs x.1.els), .int .i64 x.2] := rfl
theorem itemV_dg (x : TStmt × Int) : (itemV x).dg = itemV x := rfl
/-- A row that was made by appending. -/
def rowV (sz : Nat) (l : List AV) : AV := match l with
  | [] => .nsl
  | l => .xsl sz l
theorem asX_rowV (sz : Nat) (l : List AV) : (rowV sz l).asX sz = .xsl sz l := by cases l <;> rfl
theorem asX_xsl (sz : Nat) (l : List AV) : (AV.xsl sz l).asX sz = .xsl sz l := rfl
theorem rowV_ne (sz : Nat) (a : AV) (l : List AV) : rowV sz (a :: l) = .xsl sz (a :: l) := rfl
theorem rowV_app (sz : Nat) (l m : List AV) (h : m ≠ []) : rowV sz (l ++ m) = .xsl sz (l ++ m) := by
  cases l with
  | nil => cases m with
    | nil => exact absurd rfl h
    | cons a m => rfl
  | cons a l => rfl
theorem rowV_isV (sz : Nat) (l : List AV) : (rowV sz l).isV = true := by cases l <;> simp [rowV, AV.isV]
theorem LeT.row (sz : Nat) (l : List AV) : LeT (rowV sz l) (.xsl sz l) := by
  cases l with
  | nil => exact LeT.nilx sz
  | cons a l => exact LeT.refl _
theorem app_ok {d : Option Nat} {x y : X} {sz by_ : Nat} {s : View} {v0 u : AV} {l l' : List AV} (hx : s.ev x = some v0) (h0 : v0.asX sz = .xsl sz l) (hy : s.val y = some u) (hu : u.asS sz = .sl sz l') (hb : (l.length + l'.length) * by_ ≤ 140737488355328) :
    aop d (.app x y sz by_) s = some { v := .xsl sz (l ++ l'), tw := left x v0 } := by
  simp only [aop, hx, hy, Option.map_some, hu, h0, Nat.beq_refl, Bool.true_or, hb, decide_true]
theorem fin_cell_tmp {D : CallDR} {a b off n t : Nat} {cs w : List AV} {u v : AV} {dep : List (Nat × List Nat)} {tm : List (Nat × AV)} {bx : List (Nat × List AV)} {h : List HObj} (ha : look tm a = some (.lptr b off)) (hb : look bx b = some cs) (hw : window cs off n = some w)
    (hu : (AV.agg w).dg = u) (hv : look tm t = some v) (hi : v.isV = true) : fin D [.cell a n true, .tmp t] (.ret (.tup [u, v])) h .ret (AS.mk dep tm bx h []) := by
  show (match aRes (AS.mk dep tm bx h []) [.cell a n true, .tmp t] with | some (vs, s') => AEnd.ret (.tup [u, v]) = .ret (one1 vs) ∧ h = _ | none => False)
  have : View.at (AS.view (AS.mk dep tm bx h [])) (.lptr b off) n = some w := by
    show (match look bx b with | some cs => window cs off n | none => none) = some w
    rw [hb]; exact hw
  simp [aRes, ha, this, mkv, hv, hi, one1, hu]
/-- Less is told of a row. -/
inductive LeE : List AV → List AV → Prop
  | nil : LeE [] []
  | cons {a b : AV} {l m : List AV} (h : LeL a.cells b.cells) (h1 : b.cells.all AV.one = true) (k : LeE l m) : LeE (a :: l) (b :: m)
theorem LeE.len {l m : List AV} (h : LeE l m) : l.length = m.length := by
  induction h with
  | nil => rfl
  | cons _ _ _ ih => simp [ih]
theorem LeE.get {l m : List AV} (h : LeE l m) : ∀ (i : Nat) (b : AV), m[i]? = some b → ∃ a, l[i]? = some a ∧ LeL a.cells b.cells ∧ b.cells.all AV.one = true := by
  induction h with
  | nil => intro i b hb; simp at hb
  | cons h h1 _ ih =>
    intro i b hb
    cases i with
    | zero => simp at hb; subst hb; exact ⟨_, rfl, h, h1⟩
    | succ i => exact ih i b (by simpa using hb)
theorem LeR.sl {sz : Nat} {l m : List AV} (h : LeE l m) : LeR (.sl sz l) (.sl sz m) := fun γ w c k => by
  cases k with
  | sl _ _ a cap vs hz ha hn hv h1 hl hm =>
    have hlen := h.len
    rw [hlen]
    refine .sl sz m a cap vs (fun i e he => ?_) (fun hne => ?_) hn (fun i e j c hi hj => ?_) (fun i e j c hi hj => ?_) (by omega) (by omega)
    · obtain ⟨x, hx, q1, _⟩ := h.get i e he
      rw [← q1.len]
      exact hz i x hx
    · have hne' : l ≠ [] := fun e => hne (List.length_eq_zero_iff.1 (by rw [← hlen, e]; rfl))
      obtain ⟨b, o, e1, hc⟩ := ha hne'
      refine ⟨b, o, e1, fun i e j c hi hj => ?_⟩
      obtain ⟨x, hx, q1, _⟩ := h.get i e hi
      obtain ⟨y, hy, _⟩ := q1.get j c hj
      exact hc i x j y hx hy
    · obtain ⟨x, hx, q1, _⟩ := h.get i e hi
      obtain ⟨y, hy, q2⟩ := q1.get j c hj
      exact q2 γ w _ (hv i x j y hx hy)
    · obtain ⟨x, hx, q1, q3⟩ := h.get i e hi
      exact List.all_eq_true.1 q3 c (List.mem_of_getElem? hj)
/-- No statement. -/
def TStmt.zero : TStmt := .mk 0 ByteArray.empty ByteArray.empty 0 [] [] []
def zstmt : AV := .agg [.int .i64 0, .str ⟨#[]⟩, .str ⟨#[]⟩, .int .i64 0, .nsl, .nsl, .nsl]
theorem le_zstmt : LeL zstmt.cells (stmtV .zero).cells := .cons (LeR.refl _) <| .cons (LeR.refl _) <| .cons (LeR.refl _) <| .cons (LeR.refl _) <| .cons (LeR.nil 4) <| .cons (LeR.nil 7) <| .cons (LeR.nil 7) .nil
theorem zstmt_isV : zstmt.isV = true := by simp [zstmt, AV.isV]
def optS : Option TStmt → AV
  | some s => stmtV s
  | none => zstmt
theorem optS_dg (o : Option TStmt) : (optS o).dg = optS o := by cases o <;> first | rfl | exact stmtV_dg _
theorem optS_dgc (o : Option TStmt) : (optS o).dgc = optS o := by cases o <;> first | rfl | exact stmtV_dgc _
theorem optS_clen (o : Option TStmt) : (optS o).cells.length = 7 := by cases o <;> first | rfl | (simp only [optS, stmtV_cells]; rfl)
theorem optS_win (o : Option TStmt) : window (optS o).cells 0 7 = some (optS o).cells := by cases o <;> first | rfl | (simp only [optS, stmtV_cells]; rfl)
theorem optS_agg (o : Option TStmt) : (AV.agg (optS o).cells).dg = optS o := by cases o <;> first | rfl | (simp only [optS, stmtV_cells, stmtV_agg]; exact stmtV_dg _)
theorem optS_take (o : Option TStmt) : List.take 7 (optS o).cells = (optS o).cells := by cases o <;> first | rfl | (simp only [optS, stmtV_cells]; rfl)
theorem optS_dg1 (o : Option TStmt) : AV.agg (List.map AV.dg1 (optS o).cells) = optS o := by cases o <;> first | rfl | (rename_i s; cases s; rfl)
theorem optS_isV (o : Option TStmt) : (optS o).isV = true := by cases o <;> simp [optS, stmtV_isV, zstmt_isV]
mutual
/-- How many parts there are, as far as most. -/
def sizeE (most : Int) : TExpr → Int
  | .mk _ n _ l => sizeEs most (IntKind.wrap .i64 (1 + IntKind.wrap .i64 (Int.tdiv n.size 8))) l
def sizeEs (most : Int) (acc : Int) : List TExpr → Int
  | [] => acc
  | x :: l => if acc ≤ most then sizeEs most (IntKind.wrap .i64 (acc + sizeE (IntKind.wrap .i64 (most - acc)) x)) l else acc
end
theorem sizeE_eq (most : Int) (x : TExpr) : sizeE most x = sizeEs most (IntKind.wrap .i64 (1 + IntKind.wrap .i64 (Int.tdiv x.name.size 8))) x.l := by cases x; rfl
def sizeS0 (acc : Int) (s : TStmt) : Int := IntKind.wrap .i64 (IntKind.wrap .i64 (IntKind.wrap .i64 (acc + 1) + IntKind.wrap .i64 (Int.tdiv s.name.size 8)) + IntKind.wrap .i64 (Int.tdiv s.proc.size 8))
mutual
def TStmt.size (most acc : Int) : TStmt → Int
  | .mk k n p m e b c =>
    let a := sizeEs most (sizeS0 acc (.mk k n p m e b c)) e
    let a := IntKind.wrap .i64 (a + sizeSs (IntKind.wrap .i64 (most - a)) 0 b)
    IntKind.wrap .i64 (a + sizeSs (IntKind.wrap .i64 (most - a)) 0 c)
def sizeSs (most acc : Int) : List TStmt → Int
  | [] => acc
  | s :: l => if acc ≤ most then sizeSs most (s.size most acc) l else acc
end
theorem TStmt.size_eq (most acc : Int) (s : TStmt) : s.size most acc = (let a := sizeEs most (sizeS0 acc s) s.e
    let a := IntKind.wrap .i64 (a + sizeSs (IntKind.wrap .i64 (most - a)) 0 s.body)
    IntKind.wrap .i64 (a + sizeSs (IntKind.wrap .i64 (most - a)) 0 s.els)) := by cases s; rfl
def sizePs (most acc : Int) : List TParam → Int
  | [] => acc
  | p :: l => if acc ≤ most then sizePs most (IntKind.wrap .i64 (acc + IntKind.wrap .i64 (Int.tdiv p.name.size 8))) l else acc
def sizeProc (most acc : Int) (p : TProc) : Int :=
  let a := sizePs most (IntKind.wrap .i64 (IntKind.wrap .i64 (IntKind.wrap .i64 (acc + 1) + IntKind.wrap .i64 (Int.tdiv p.name.size 8)) + p.params.length)) p.params
  IntKind.wrap .i64 (a + sizeSs (IntKind.wrap .i64 (most - a)) 0 p.body)
def sizeProg (most acc : Int) : List TProc → Int
  | [] => acc
  | p :: l => if acc ≤ most then sizeProg most (sizeProc most acc p) l else acc
mutual
/-- How many expressions there are. -/
def TExpr.count : TExpr → Nat
  | .mk _ _ _ l => 1 + ecount l
def ecount : List TExpr → Nat
  | [] => 0
  | x :: l => x.count + ecount l
end
theorem TExpr.count_eq (x : TExpr) : x.count = 1 + ecount x.l := by cases x; rfl
theorem ecount_app (a b : List TExpr) : ecount (a ++ b) = ecount a + ecount b := by
  induction a with
  | nil => simp [ecount]
  | cons x a ih => simp [ecount, ih]; omega
theorem ecount_get {l : List TExpr} {k : Nat} {x : TExpr} (h : l[k]? = some x) : x.count ≤ ecount l := by
  have h1 := take_succ_get h
  have h2 := ecount_app (l.take (k + 1)) (l.drop (k + 1))
  rw [List.take_append_drop, h1, ecount_app] at h2
  simp only [ecount] at h2
  omega
theorem len_le_ecount (l : List TExpr) : l.length ≤ ecount l := by
  induction l with
  | nil => simp
  | cons x l ih => have := TExpr.count_eq x; simp only [List.length_cons, ecount]; omega
theorem drop_get {α : Type} {l : List α} {k : Nat} {x : α} (h : l[k]? = some x) : l.drop k = x :: l.drop (k + 1) := by
  have hk : k < l.length := (List.getElem?_eq_some_iff.1 h).1
  rw [List.drop_eq_getElem_cons hk]
  congr 1
  rw [List.getElem?_eq_getElem hk] at h
  exact Option.some.inj h
theorem countAll_get {l : List TStmt} {k : Nat} {x : TStmt} (h : l[k]? = some x) : x.count ≤ countAll l := by
  have h1 := countAll_take h
  have h2 := countAll_le l (k + 1)
  omega
mutual
def TStmt.ecount : TStmt → Nat
  | .mk _ _ _ _ e b c => Am.ecount e + (esAll b + esAll c)
def esAll : List TStmt → Nat
  | [] => 0
  | s :: l => s.ecount + esAll l
end
theorem sizeEs_stop {most acc : Int} {l : List TExpr} {k : Nat} (h : ¬ k < l.length ∨ ¬ acc ≤ most) : sizeEs most acc (l.drop k) = acc := by
  rcases h with h | h
  · rw [List.drop_eq_nil_of_le (by omega)]; simp [sizeEs]
  · cases l.drop k with
    | nil => simp [sizeEs]
    | cons x r => simp [sizeEs, h]
theorem sizeEs_step {most acc : Int} {l : List TExpr} {k : Nat} {x : TExpr} (hx : l[k]? = some x) (h : acc ≤ most) : sizeEs most acc (l.drop k) = sizeEs most (IntKind.wrap .i64 (acc + sizeE (IntKind.wrap .i64 (most - acc)) x)) (l.drop (k + 1)) := by
  rw [drop_get hx, sizeEs, if_pos h]
theorem sizeSs_stop {most acc : Int} {l : List TStmt} {k : Nat} (h : ¬ k < l.length ∨ ¬ acc ≤ most) : sizeSs most acc (l.drop k) = acc := by
  rcases h with h | h
  · rw [List.drop_eq_nil_of_le (by omega)]; simp [sizeSs]
  · cases l.drop k with
    | nil => simp [sizeSs]
    | cons x r => simp [sizeSs, h]
theorem sizeSs_step {most acc : Int} {l : List TStmt} {k : Nat} {x : TStmt} (hx : l[k]? = some x) (h : acc ≤ most) : sizeSs most acc (l.drop k) = sizeSs most (x.size most acc) (l.drop (k + 1)) := by
  rw [drop_get hx, sizeSs, if_pos h]
theorem sizePs_stop {most acc : Int} {l : List TParam} {k : Nat} (h : ¬ k < l.length ∨ ¬ acc ≤ most) : sizePs most acc (l.drop k) = acc := by
  rcases h with h | h
  · rw [List.drop_eq_nil_of_le (by omega)]; simp [sizePs]
  · cases l.drop k with
    | nil => simp [sizePs]
    | cons x r => simp [sizePs, h]
theorem sizePs_step {most acc : Int} {l : List TParam} {k : Nat} {x : TParam} (hx : l[k]? = some x) (h : acc ≤ most) : sizePs most acc (l.drop k) = sizePs most (IntKind.wrap .i64 (acc + IntKind.wrap .i64 (Int.tdiv x.name.size 8))) (l.drop (k + 1)) := by
  rw [drop_get hx, sizePs, if_pos h]
theorem sizeProg_stop {most acc : Int} {l : List TProc} {k : Nat} (h : ¬ k < l.length ∨ ¬ acc ≤ most) : sizeProg most acc (l.drop k) = acc := by
  rcases h with h | h
  · rw [List.drop_eq_nil_of_le (by omega)]; simp [sizeProg]
  · cases l.drop k with
    | nil => simp [sizeProg]
    | cons x r => simp [sizeProg, h]
theorem sizeProg_step {most acc : Int} {l : List TProc} {k : Nat} {x : TProc} (hx : l[k]? = some x) (h : acc ≤ most) : sizeProg most acc (l.drop k) = sizeProg most (sizeProc most acc x) (l.drop (k + 1)) := by
  rw [drop_get hx, sizeProg, if_pos h]
theorem procVs_get (l : List TProc) (i : Nat) : (l.map procV)[i]? = l[i]?.map procV := by simp
theorem paramVs_get (l : List TParam) (i : Nat) : (l.map paramV)[i]? = l[i]?.map paramV := by simp
theorem procVs_len (l : List TProc) : (l.map procV).length = l.length := by simp
theorem paramVs_len (l : List TParam) : (l.map paramV).length = l.length := by simp
theorem TStmt.ecount_eq (s : TStmt) : s.ecount = Am.ecount s.e + (esAll s.body + esAll s.els) := by cases s; rfl
theorem esAll_get {l : List TStmt} {k : Nat} {x : TStmt} (h : l[k]? = some x) : x.ecount ≤ esAll l := by
  induction l generalizing k with
  | nil => simp at h
  | cons y l ih =>
    cases k with
    | zero => simp at h; subst h; simp only [esAll]; omega
    | succ k => have := ih (by simpa using h); simp only [esAll]; omega
end Go.Am

set_option linter.unusedSimpArgs false
set_option linter.unusedVariables false
open Go.RowKit
namespace Go.Am

/-! ### Arguments, read -/
/-- A measure of what is read. -/
structure Bulk {H : Type} (B : DataW H → Nat) : Prop where
  sl : ∀ ds rest, (ds.map B).sum + 1 ≤ B (.slice ds rest)
  agg : ∀ ds, (ds.map B).sum + 1 ≤ B (.agg ds)
  one : ∀ d, 1 ≤ B d
section
variable {H : Type} {enc : TypeId × Value → H} {P : Program} {w : World} {base : Nat} {sp : Nat → Bool} {held : Bool} {γ : Gh}
def RelCs (γ : Gh) (w : World) (l : List AV) (cs : List Value) : Prop := cs.length = l.length ∧ ∀ (j : Nat) (c : AV) (v : Value), l[j]? = some c → cs[j]? = some v → Rel γ w c v
theorem RelCs.nil : RelCs γ w [] [] := ⟨rfl, fun j c v h => by simp at h⟩
theorem RelCs.cons {a : AV} {v : Value} {l : List AV} {cs : List Value} (h : Rel γ w a v) (k : RelCs γ w l cs) : RelCs γ w (a :: l) (v :: cs) :=
  ⟨by simp [k.1], fun j c u hc hu => by
    cases j with
    | zero => simp at hc hu; subst hc hu; exact h
    | succ j => exact k.2 j c u (by simpa using hc) (by simpa using hu)⟩
theorem RelCs.agg {l : List AV} {cs : List Value} (h : RelCs γ w l cs) (h1 : l.all AV.one = true) : Rel γ w (.agg l) (.agg cs.toArray) :=
  .agg l cs.toArray (by simpa using h.1) (fun j c v hc hv => h.2 j c v hc (by simpa using hv)) fun j c hc => List.all_eq_true.1 h1 c (List.mem_of_getElem? hc)
/-- A struct type: of each field its type and place. -/
def StIs (P : Program) (t : TypeId) (l : List (TypeId × Nat)) (n : Nat) : Prop := ∃ fs, P.underlying t = some (.struct fs) ∧ fs.toList.map (fun f => (f.type, f.offset)) = l ∧ P.cellsOf t = n
theorem rd_int {t : TypeId} {k : IntKind} {fuel : Nat} {cs : List Value} {x : DataW H × List MemPlace} (ht : P.underlying t = some (.int k)) (h : DataW.trod enc P w base sp held fuel t cs = some x) : ∃ n, cs = [.int k n] ∧ (Lit.int k n).wf = true := by
  obtain ⟨n, h1, _, h3⟩ := DataW.trod_int ht h
  exact ⟨n, h1, h3⟩
theorem rd_str {t : TypeId} {fuel : Nat} {cs : List Value} {x : DataW H × List MemPlace} (ht : P.underlying t = some .string) (h : DataW.trod enc P w base sp held fuel t cs = some x) : ∃ s, cs = [.string s] := by
  obtain ⟨n, h1, _⟩ := DataW.trod_string ht h
  exact ⟨n, h1⟩
theorem rd_struct {t : TypeId} {l : List (TypeId × Nat)} {n fuel : Nat} {cs : List Value} {x : DataW H × List MemPlace} (ht : StIs P t l n) (h : DataW.trod enc P w base sp held fuel t cs = some x) :
    ∃ (ds : List (DataW H)) (m : Nat), fuel = m + 1 ∧ x.1 = .agg ds ∧ cs.length = n ∧ ds.length = l.length ∧ ∀ (i : Nat) (ty : TypeId) (off : Nat), l[i]? = some (ty, off) → ∃ d p, ds[i]? = some d ∧ DataW.trod enc P w base sp held m ty ((cs.drop off).take (P.cellsOf ty)) = some (d, p) := by
  obtain ⟨fs, h1, h2, h3⟩ := ht
  obtain ⟨xs, m, rfl, rfl, hl, hx, hi⟩ := DataW.trod_struct h1 h
  refine ⟨xs.map (·.1), m, rfl, rfl, hl.trans h3, by rw [List.length_map, hx, ← h2]; simp, fun i ty off hi2 => ?_⟩
  rw [← h2, List.getElem?_map] at hi2
  cases hf : fs.toList[i]? with
  | none => rw [hf] at hi2; cases hi2
  | some f =>
    rw [hf] at hi2
    cases hi2
    have := hi i f (by simpa using hf)
    have hlt : i < xs.length := by rw [hx]; exact (Array.getElem?_eq_some_iff.1 (by simpa using hf)).1
    rw [List.getElem?_eq_getElem hlt] at this
    exact ⟨xs[i].1, xs[i].2, by simp [List.getElem?_eq_getElem hlt], this⟩
theorem le_sum : ∀ (l : List Nat) (a : Nat), a ∈ l → a ≤ l.sum
  | b :: l, a, h => by
    rcases List.mem_cons.1 h with rfl | h
    · simp
    · have := le_sum l a h; simp; omega
/-- A slice's elements. -/
theorem rd_slice {t e : TypeId} {fuel sz : Nat} {cs : List Value} {x : DataW H × List MemPlace} (ht : P.underlying t = some (.slice e)) (hsz : P.cellsOf e = sz) (h0 : 0 < sz) {B : DataW H → Nat} (hB : Bulk B) (hown : ∀ b j, b < γ.n0 → γ.own b j = .claim) (hn0 : γ.n0 = w.heap.size)
    {α : Type} {V : α → AV} {Q : α → Nat → Prop} (hV : ∀ a, (V a).cells.length = sz ∧ (V a).cells.all AV.one = true)
    (hel : ∀ m cs y, m < fuel → B y.1 ≤ 281474976710656 → DataW.trod enc P w base sp held m e cs = some y → ∃ a, RelCs γ w (V a).cells cs ∧ Q a (B y.1)) (hbd : B x.1 ≤ 281474976710656) (h : DataW.trod enc P w base sp held fuel t cs = some x) :
    ∃ (l : List α) (v : Value) (bs : List Nat), cs = [v] ∧ Rel γ w (.sl sz (l.map V)) v ∧ l.length = bs.length ∧ (∀ (i : Nat) (a : α) (b : Nat), l[i]? = some a → bs[i]? = some b → Q a b) ∧ bs.sum + 1 ≤ B x.1 ∧ l.length + 1 ≤ B x.1 := by
  cases fuel with
  | zero => simp [DataW.trod] at h
  | succ n =>
  rcases DataW.trod_slice ht h with ⟨rfl, rfl⟩ | ⟨a, len, cap, elems, rest, n', hn, rfl, rfl, hb, hl, hm, hlen, helx, hsp, hns⟩
  · exact ⟨[], _, [], rfl, rel_sl_nil γ w sz, rfl, fun i a b h => by simp at h, by simpa using hB.one _, by simpa using hB.one _⟩
  · cases hn
    have hone : ∀ i, i < len → ∃ cs' y, w.cells? base (a.add (i * P.cellsOf e)) (P.cellsOf e) = some cs' ∧ DataW.trod enc P w base sp held n e cs' = some y ∧ elems[i]? = some y := by
      intro i hi
      have h1 := helx i hi
      rw [List.getElem?_eq_getElem (by omega)] at h1
      obtain ⟨cs', h2, h3⟩ := Option.bind_eq_some_iff.1 h1
      exact ⟨cs', elems[i], h2, h3, List.getElem?_eq_getElem (by omega)⟩
    have key : ∀ i, i < len → ∃ (z : α × List Value × Nat), w.cells? base (a.add (i * sz)) sz = some z.2.1 ∧ RelCs γ w (V z.1).cells z.2.1 ∧ Q z.1 z.2.2 ∧ (elems.map (fun y => B y.1))[i]? = some z.2.2 := by
      intro i hi
      obtain ⟨cs', y, h1, h2, h3⟩ := hone i hi
      have hby : B y.1 ≤ 281474976710656 := by
        have h1 := hB.sl (elems.map (·.1)) (rest.map (·.1))
        have h2 := le_sum ((elems.map (·.1)).map B) (B y.1) (List.mem_of_getElem? (i := i) (by simp [h3]))
        simp only at hbd
        omega
      obtain ⟨q, h4, h5⟩ := hel n cs' y (Nat.lt_succ_self _) hby h2
      rw [hsz] at h1
      exact ⟨(q, cs', B y.1), h1, h4, h5, by simp [h3]⟩
    cases hl0 : len with
    | zero =>
      subst hl0
      have he : elems = [] := List.length_eq_zero_iff.1 hlen
      subst he
      refine ⟨[], _, [], rfl, ?_, rfl, fun i a b h => by simp at h, by simpa using hB.one _, by simpa using hB.one _⟩
      exact .sl sz [] (some a) cap (fun _ _ => .int .i64 0) (fun i e h => by simp at h) (fun h => absurd rfl h) (fun h => by cases h) (fun i e j c h => by simp at h) (fun i e j c h => by simp at h) (Nat.zero_le _) (by simp)
    | succ len' =>
    have hlpos : 0 < len := by omega
    obtain ⟨z0, hz0, hr0, _, _⟩ := key 0 hlpos
    haveI : Inhabited (α × List Value × Nat) := ⟨z0⟩
    obtain ⟨F, hF⟩ := Go.Deep.choose_lt key
    -- the address is plain
    obtain ⟨b, off, spot⟩ := a
    have hspot : spot = none := by
      obtain ⟨_, hl1, hc1⟩ := World.cells?_some hz0
      have h1 := hc1 0 h0
      have hlt : 0 < z0.2.1.length := by rw [hl1]; exact h0
      rw [List.getElem?_eq_getElem hlt] at h1
      simpa [Addr.add] using World.cell?_spot h1
    subst hspot
    have hcell : ∀ i, i < len → ∀ j, j < sz → w.cell? ⟨b, off + i * sz + j, none⟩ = (F i).2.1[j]? := by
      intro i hi j hj
      obtain ⟨_, _, hc1⟩ := World.cells?_some (hF i hi).1
      have := hc1 j hj
      rw [Go.Deep.add_add] at this
      simpa [Go.WideShapes.add_plain, Nat.add_assoc] using this
    have hblt : b < w.heap.size := by
      have h1 := hcell 0 hlpos 0 h0
      obtain ⟨_, hl1, _⟩ := World.cells?_some (hF 0 hlpos).1
      rw [List.getElem?_eq_getElem (by omega)] at h1
      rcases Nat.lt_or_ge b w.heap.size with q | q
      · exact q
      · simp [World.cell?, Array.getElem?_eq_none q] at h1
    have hlenB : elems.length ≤ ((elems.map (·.1)).map B).sum := by
      have h2 : ∀ l : List (DataW H × List MemPlace), l.length ≤ ((l.map (·.1)).map B).sum := by
        intro l
        induction l with
        | nil => simp
        | cons y l ih =>
          have := hB.one y.1
          simp only [List.length_cons, List.map_cons, List.sum_cons]
          omega
      exact h2 elems
    have hlen48 : len ≤ 281474976710656 := by
      have h1 := hB.sl (elems.map (·.1)) (rest.map (·.1))
      simp only at hbd
      omega
    refine ⟨(List.range len).map fun i => (F i).1, _, elems.map (fun y => B y.1), rfl, ?_, by simp [hlen], fun i q d hq hd => ?_, ?_, ?_⟩
    · have hlenl : (((List.range len).map fun i => (F i).1).map V).length = len := by simp
      have hget : ∀ (i : Nat) (e : AV), (((List.range len).map fun i => (F i).1).map V)[i]? = some e → i < len ∧ e = V (F i).1 := by
        intro i e he
        have hlt : i < len := by
          have := (List.getElem?_eq_some_iff.1 he).1
          simpa using this
        simp [hlt] at he
        exact ⟨hlt, he.symm⟩
      have hval : ∀ (i j : Nat) (c : AV), i < len → (V (F i).1).cells[j]? = some c → (F i).2.1[j]? = some ((F i).2.1.getD j (.int .i64 0)) ∧ j < sz := by
        intro i j c hi hc
        have hj : j < sz := by rw [← (hV (F i).1).1]; exact (List.getElem?_eq_some_iff.1 hc).1
        have hlt : j < (F i).2.1.length := by rw [(hF i hi).2.1.1, (hV _).1]; exact hj
        exact ⟨by simp [List.getD, List.getElem?_eq_getElem hlt], hj⟩
      have e1 : len = (((List.range len).map fun i => (F i).1).map V).length := hlenl.symm
      have hrel : Rel γ w (.sl sz (((List.range len).map fun i => (F i).1).map V)) (.slice (some ⟨b, off, none⟩) (((List.range len).map fun i => (F i).1).map V).length cap) := by
        refine .sl sz _ (some ⟨b, off, none⟩) cap (fun i j => (F i).2.1.getD j (.int .i64 0)) (fun i e he => ?_) (fun _ => ⟨b, off, rfl, fun i e j c he hc => ?_⟩) (fun h => by cases h) (fun i e j c he hc => ?_) (fun i e j c he hc => ?_) (by rw [hlenl]; exact hl) (by rw [hlenl]; exact hlen48)
        · obtain ⟨_, rfl⟩ := hget i e he
          exact (hV _).1
        · obtain ⟨hi, rfl⟩ := hget i e he
          obtain ⟨h1, h2⟩ := hval i j c hi hc
          exact ⟨(hcell i hi j h2).trans h1, hown _ _ (by rw [hn0]; exact hblt)⟩
        · obtain ⟨hi, rfl⟩ := hget i e he
          obtain ⟨h1, h2⟩ := hval i j c hi hc
          exact (hF i hi).2.1.2 j c _ hc h1
        · obtain ⟨hi, rfl⟩ := hget i e he
          exact List.all_eq_true.1 (hV _).2 c (List.mem_of_getElem? hc)
      rw [hlenl] at hrel
      exact hl0 ▸ hrel
    · have hlt : i < len := by
        have := (List.getElem?_eq_some_iff.1 hq).1
        simpa using this
      simp [hlt] at hq
      subst hq
      rw [(hF i hlt).2.2.2] at hd
      cases hd
      exact (hF i hlt).2.2.1
    · have := hB.sl (elems.map (·.1)) (rest.map (·.1))
      rw [List.map_map] at this
      exact this
    · have h1 := hB.sl (elems.map (·.1)) (rest.map (·.1))
      simp only [List.length_map, List.length_range]
      omega
end
end Go.Am

set_option linter.unusedSimpArgs false
set_option linter.unusedVariables false
open Go.RowKit
namespace Go.Am
theorem sum_le {α : Type} (f : α → Nat) : ∀ (l : List α) (bs : List Nat), l.length = bs.length → (∀ (i : Nat) (a : α) (b : Nat), l[i]? = some a → bs[i]? = some b → f a ≤ b) → (l.map f).sum ≤ bs.sum
  | [], [], _, _ => by simp
  | a :: l, b :: bs, h, k => by
    have h1 := k 0 a b rfl rfl
    have h2 := sum_le f l bs (by simpa using h) fun i a b ha hb => k (i + 1) a b (by simpa using ha) (by simpa using hb)
    simp only [List.map_cons, List.sum_cons]
    omega
  | [], _ :: _, h, _ => by simp at h
  | _ :: _, [], h, _ => by simp at h
theorem ecount_sum (l : List TExpr) : ecount l = (l.map TExpr.count).sum := by
  induction l with
  | nil => rfl
  | cons x l ih => simp [ecount, ih]
theorem csAll_sum (l : List TStmt) : countAll l + esAll l = (l.map fun s => s.count + s.ecount).sum := by
  induction l with
  | nil => rfl
  | cons x l ih => simp only [countAll, esAll, List.map_cons, List.sum_cons]; omega
/-- The types of programs. -/
structure Tys (P : Program) where
  tI : TypeId
  tN : TypeId
  tS : TypeId
  tX : TypeId
  tXs : TypeId
  tT : TypeId
  tTs : TypeId
  tA : TypeId
  tAs : TypeId
  tP : TypeId
  tPs : TypeId
  tG : TypeId
structure Tys.ok (P : Program) (T : Tys P) : Prop where
  int : P.underlying T.tI = some (.int .i64)
  num : P.underlying T.tN = some (.int .i64)
  str : P.underlying T.tS = some .string
  cI : P.cellsOf T.tI = 1
  cN : P.cellsOf T.tN = 1
  cS : P.cellsOf T.tS = 1
  xs : P.underlying T.tXs = some (.slice T.tX)
  cXs : P.cellsOf T.tXs = 1
  x : StIs P T.tX [(T.tI, 0), (T.tS, 1), (T.tN, 2), (T.tXs, 3)] 4
  ts : P.underlying T.tTs = some (.slice T.tT)
  cTs : P.cellsOf T.tTs = 1
  t : StIs P T.tT [(T.tI, 0), (T.tS, 1), (T.tS, 2), (T.tN, 3), (T.tXs, 4), (T.tTs, 5), (T.tTs, 6)] 7
  aas : P.underlying T.tAs = some (.slice T.tA)
  cAs : P.cellsOf T.tAs = 1
  a : StIs P T.tA [(T.tS, 0), (T.tI, 1)] 2
  ps : P.underlying T.tPs = some (.slice T.tP)
  cPs : P.cellsOf T.tPs = 1
  p : StIs P T.tP [(T.tS, 0), (T.tAs, 1), (T.tI, 2), (T.tTs, 3)] 4
  g : StIs P T.tG [(T.tPs, 0)] 1
theorem exprV_one (x : TExpr) : (exprV x).cells.length = 4 ∧ (exprV x).cells.all AV.one = true := by cases x; exact ⟨rfl, rfl⟩
theorem stmtV_one (x : TStmt) : (stmtV x).cells.length = 7 ∧ (stmtV x).cells.all AV.one = true := by cases x; exact ⟨rfl, rfl⟩
theorem paramV_one (x : TParam) : (paramV x).cells.length = 2 ∧ (paramV x).cells.all AV.one = true := ⟨rfl, rfl⟩
theorem procV_one (x : TProc) : (procV x).cells.length = 4 ∧ (procV x).cells.all AV.one = true := ⟨rfl, rfl⟩
section
variable {H : Type} {enc : TypeId × Value → H} {P : Program} {w : World} {base : Nat} {sp : Nat → Bool} {held : Bool} {γ : Gh} {T : Tys P} {B : DataW H → Nat}
theorem rd_expr (hT : T.ok) (hB : Bulk B) (hown : ∀ b j, b < γ.n0 → γ.own b j = .claim) (hn0 : γ.n0 = w.heap.size) : ∀ (fuel : Nat) (cs : List Value) (x : DataW H × List MemPlace), B x.1 ≤ 281474976710656 → DataW.trod enc P w base sp held fuel T.tX cs = some x →
    ∃ e : TExpr, RelCs γ w (exprV e).cells cs ∧ e.count ≤ B x.1 := by
  intro fuel
  induction fuel using Nat.strongRecOn with
  | _ fuel ih =>
    intro cs x hbd h
    obtain ⟨ds, m, rfl, e1, hl, hd, hf⟩ := rd_struct hT.x h
    match ds, hd, cs, hl with
    | [d0, d1, d2, d3], _, [c0, c1, c2, c3], _ =>
      have hb := hB.agg [d0, d1, d2, d3]
      simp only [List.map_cons, List.map_nil, List.sum_cons, List.sum_nil] at hb
      rw [← e1] at hb
      obtain ⟨_, p0, _, h0⟩ := hf 0 _ _ rfl
      obtain ⟨_, p1, _, h1⟩ := hf 1 _ _ rfl
      obtain ⟨_, p2, _, h2⟩ := hf 2 _ _ rfl
      obtain ⟨y3, p3, hy3, h3⟩ := hf 3 _ _ rfl
      cases hy3
      rw [hT.cI] at h0
      rw [hT.cS] at h1
      rw [hT.cN] at h2
      rw [hT.cXs] at h3
      obtain ⟨k, hk, _⟩ := rd_int hT.int h0
      obtain ⟨s, hs⟩ := rd_str hT.str h1
      obtain ⟨n, hn, _⟩ := rd_int hT.num h2
      obtain ⟨l, v, bs, hv, hr, hlen, hq, hsum, hln⟩ := rd_slice (V := exprV) (Q := fun e b => e.count ≤ b) hT.xs (hT.x.choose_spec.2.2) (by decide) hB hown hn0 exprV_one (fun m' cs y hm hby hy => ih m' (by omega) cs y hby hy) (by simp only; omega) h3
      simp only [List.drop_zero, List.drop_succ_cons, List.take_succ_cons, List.take_zero, List.cons.injEq, and_true] at hk hs hn hv
      subst hk hs hn hv
      have hsm := sum_le TExpr.count l bs hlen hq
      refine ⟨.mk k s n l, .cons (.int _ _) (.cons (.str _) (.cons (.int _ _) (.cons ?_ .nil))), ?_⟩
      · rw [exprVs_map]; exact hr
      · simp only [TExpr.count, ecount_sum]
        simp only at hsum
        omega
theorem rd_stmt (hT : T.ok) (hB : Bulk B) (hown : ∀ b j, b < γ.n0 → γ.own b j = .claim) (hn0 : γ.n0 = w.heap.size) : ∀ (fuel : Nat) (cs : List Value) (x : DataW H × List MemPlace), B x.1 ≤ 281474976710656 → DataW.trod enc P w base sp held fuel T.tT cs = some x →
    ∃ s : TStmt, RelCs γ w (stmtV s).cells cs ∧ s.count + s.ecount ≤ B x.1 := by
  intro fuel
  induction fuel using Nat.strongRecOn with
  | _ fuel ih =>
    intro cs x hbd h
    obtain ⟨ds, m, rfl, e1, hl, hd, hf⟩ := rd_struct hT.t h
    match ds, hd, cs, hl with
    | [d0, d1, d2, d3, d4, d5, d6], _, [c0, c1, c2, c3, c4, c5, c6], _ =>
      have hb := hB.agg [d0, d1, d2, d3, d4, d5, d6]
      simp only [List.map_cons, List.map_nil, List.sum_cons, List.sum_nil] at hb
      rw [← e1] at hb
      obtain ⟨_, p0, _, h0⟩ := hf 0 _ _ rfl
      obtain ⟨_, p1, _, h1⟩ := hf 1 _ _ rfl
      obtain ⟨_, p2, _, h2⟩ := hf 2 _ _ rfl
      obtain ⟨_, p3, _, h3⟩ := hf 3 _ _ rfl
      obtain ⟨y4, p4, hy4, h4⟩ := hf 4 _ _ rfl
      obtain ⟨y5, p5, hy5, h5⟩ := hf 5 _ _ rfl
      obtain ⟨y6, p6, hy6, h6⟩ := hf 6 _ _ rfl
      cases hy4
      cases hy5
      cases hy6
      rw [hT.cI] at h0
      rw [hT.cS] at h1 h2
      rw [hT.cN] at h3
      rw [hT.cXs] at h4
      rw [hT.cTs] at h5 h6
      obtain ⟨k, hk, _⟩ := rd_int hT.int h0
      obtain ⟨s, hs⟩ := rd_str hT.str h1
      obtain ⟨q, hq⟩ := rd_str hT.str h2
      obtain ⟨n, hn, _⟩ := rd_int hT.num h3
      obtain ⟨l, v, bs, hv, hr, hlen, hqq, hsum, hln⟩ := rd_slice (V := exprV) (Q := fun e b => e.count ≤ b) hT.xs (hT.x.choose_spec.2.2) (by decide) hB hown hn0 exprV_one (fun m' cs y hm hby hy => rd_expr hT hB hown hn0 m' cs y hby hy) (by simp only; omega) h4
      obtain ⟨l2, v2, bs2, hv2, hr2, hlen2, hqq2, hsum2, hln2⟩ := rd_slice (V := stmtV) (Q := fun s b => s.count + s.ecount ≤ b) hT.ts (hT.t.choose_spec.2.2) (by decide) hB hown hn0 stmtV_one (fun m' cs y hm hby hy => ih m' (by omega) cs y hby hy) (by simp only; omega) h5
      obtain ⟨l3, v3, bs3, hv3, hr3, hlen3, hqq3, hsum3, hln3⟩ := rd_slice (V := stmtV) (Q := fun s b => s.count + s.ecount ≤ b) hT.ts (hT.t.choose_spec.2.2) (by decide) hB hown hn0 stmtV_one (fun m' cs y hm hby hy => ih m' (by omega) cs y hby hy) (by simp only; omega) h6
      simp only [List.drop_zero, List.drop_succ_cons, List.take_succ_cons, List.take_zero, List.cons.injEq, and_true] at hk hs hq hn hv hv2 hv3
      subst hk hs hq hn hv hv2 hv3
      have hsm := sum_le TExpr.count l bs hlen hqq
      have hsm2 := sum_le (fun s : TStmt => s.count + s.ecount) l2 bs2 hlen2 hqq2
      have hsm3 := sum_le (fun s : TStmt => s.count + s.ecount) l3 bs3 hlen3 hqq3
      refine ⟨.mk k s q n l l2 l3, .cons (.int _ _) (.cons (.str _) (.cons (.str _) (.cons (.int _ _) (.cons ?_ (.cons ?_ (.cons ?_ .nil)))))), ?_⟩
      · rw [exprVs_map]; exact hr
      · rw [stmtVs_map]; exact hr2
      · rw [stmtVs_map]; exact hr3
      · rw [← csAll_sum] at hsm2 hsm3
        simp only [TStmt.count, TStmt.ecount, ecount_sum]
        simp only at hsum hsum2 hsum3
        omega
theorem rd_param (hT : T.ok) : ∀ (fuel : Nat) (cs : List Value) (x : DataW H × List MemPlace), DataW.trod enc P w base sp held fuel T.tA cs = some x → ∃ p : TParam, RelCs γ w (paramV p).cells cs := by
  intro fuel cs x h
  obtain ⟨ds, m, rfl, e1, hl, hd, hf⟩ := rd_struct hT.a h
  match ds, hd, cs, hl with
  | [d0, d1], _, [c0, c1], _ =>
    obtain ⟨_, p0, _, h0⟩ := hf 0 _ _ rfl
    obtain ⟨_, p1, _, h1⟩ := hf 1 _ _ rfl
    rw [hT.cS] at h0
    rw [hT.cI] at h1
    obtain ⟨s, hs⟩ := rd_str hT.str h0
    obtain ⟨k, hk, _⟩ := rd_int hT.int h1
    simp only [List.drop_zero, List.drop_succ_cons, List.take_succ_cons, List.take_zero, List.cons.injEq, and_true] at hk hs
    subst hk hs
    exact ⟨⟨s, k⟩, .cons (.str _) (.cons (.int _ _) .nil)⟩
theorem rd_proc (hT : T.ok) (hB : Bulk B) (hown : ∀ b j, b < γ.n0 → γ.own b j = .claim) (hn0 : γ.n0 = w.heap.size) : ∀ (fuel : Nat) (cs : List Value) (x : DataW H × List MemPlace), B x.1 ≤ 281474976710656 → DataW.trod enc P w base sp held fuel T.tP cs = some x →
    ∃ p : TProc, RelCs γ w (procV p).cells cs ∧ countAll p.body + esAll p.body + p.params.length + 1 ≤ B x.1 := by
  intro fuel cs x hbd h
  obtain ⟨ds, m, rfl, e1, hl, hd, hf⟩ := rd_struct hT.p h
  match ds, hd, cs, hl with
  | [d0, d1, d2, d3], _, [c0, c1, c2, c3], _ =>
    have hb := hB.agg [d0, d1, d2, d3]
    simp only [List.map_cons, List.map_nil, List.sum_cons, List.sum_nil] at hb
    rw [← e1] at hb
    obtain ⟨_, p0, _, h0⟩ := hf 0 _ _ rfl
    obtain ⟨y1, p1, hy1, h1⟩ := hf 1 _ _ rfl
    obtain ⟨_, p2, _, h2⟩ := hf 2 _ _ rfl
    obtain ⟨y3, p3, hy3, h3⟩ := hf 3 _ _ rfl
    cases hy1
    cases hy3
    rw [hT.cS] at h0
    rw [hT.cAs] at h1
    rw [hT.cI] at h2
    rw [hT.cTs] at h3
    obtain ⟨s, hs⟩ := rd_str hT.str h0
    obtain ⟨k, hk, _⟩ := rd_int hT.int h2
    obtain ⟨l, v, bs, hv, hr, hlen, hqq, hsum, hln⟩ := rd_slice (V := paramV) (Q := fun _ _ => True) hT.aas (hT.a.choose_spec.2.2) (by decide) hB hown hn0 paramV_one (fun m' cs y hm hby hy => by
      obtain ⟨p, hp⟩ := rd_param (γ := γ) hT m' cs y hy
      exact ⟨p, hp, trivial⟩) (by simp only; omega) h1
    obtain ⟨l2, v2, bs2, hv2, hr2, hlen2, hqq2, hsum2, hln2⟩ := rd_slice (V := stmtV) (Q := fun s b => s.count + s.ecount ≤ b) hT.ts (hT.t.choose_spec.2.2) (by decide) hB hown hn0 stmtV_one (fun m' cs y hm hby hy => rd_stmt hT hB hown hn0 m' cs y hby hy) (by simp only; omega) h3
    simp only [List.drop_zero, List.drop_succ_cons, List.take_succ_cons, List.take_zero, List.cons.injEq, and_true] at hk hs hv hv2
    subst hk hs hv hv2
    have hsm2 := sum_le (fun s : TStmt => s.count + s.ecount) l2 bs2 hlen2 hqq2
    refine ⟨⟨s, l, k, l2⟩, .cons (.str _) (.cons hr (.cons (.int _ _) (.cons ?_ .nil))), ?_⟩
    · rw [stmtVs_map]; exact hr2
    · rw [← csAll_sum] at hsm2
      simp only at hsum hsum2 hln ⊢
      omega
end
end Go.Am

set_option linter.unusedSimpArgs false
set_option linter.unusedVariables false
open Go.RowKit Go.ChangeShapes
namespace Go.Am

/-! ### A row, closed -/
def gh0 (W : World) : Gh := { own := fun b _ => if b < W.heap.size then .claim else .dead, bxb := fun _ => 0, blk := fun _ => 0, nh := 0, n0 := W.heap.size, w0 := W }
theorem WR0 (W : World) : WR (gh0 W) W [] :=
  ⟨Below.refl _ _, Nat.le_refl _, fun b j h => if_pos h, fun b j h => if_neg (by omega), rfl, fun id o h => by simp at h⟩
theorem own0 (W : World) : ∀ b j, b < (gh0 W).n0 → (gh0 W).own b j = .claim := fun b j h => if_pos h
section
variable {H : Type} {enc : TypeId × Value → H} {P : Program}
theorem trodAll_stays (hl : laidOutB P = true) {W W' : World} {sp : Nat → Bool} : ∀ {ts : List TypeId} {vs : List Value} {ds : List (DataW H)} {ps : List MemPlace}, (∀ t ∈ ts, P.readableRec t = true ∧ t < P.types.size) → DataW.TrodAll enc P W 0 (fun _ => true) true ts vs ds ps →
    (∀ x ∈ ps, W.sameAt W' x) → (∀ x ∈ ps, sp x.block = true) → DataW.TrodAll enc P W' 0 sp true ts vs ds ps
  | [], vs, ds, ps, ht, h, hs, hp => by
    obtain ⟨rfl, rfl, rfl⟩ := trodAll_nil h
    exact rfl
  | t :: ts, vs, ds, ps, ht, h, hs, hp => by
    obtain ⟨v, vs1, d, ds1, a, b, rfl, rfl, rfl, h1, h2⟩ := trodAll_cons h
    have ht1 := ht t (by simp)
    exact ⟨a, b, WideElems.Trod_stays hl ht1.1 ht1.2 h1 (fun x hx => hs x (by simp [hx])) (fun x hx => hp x (by simp [hx])), trodAll_stays hl (fun t ht2 => ht t (by simp [ht2])) h2 (fun x hx => hs x (by simp [hx])) (fun x hx => hp x (by simp [hx])), rfl⟩
/-- What is asked of the world behind a law's call. -/
theorem law_post {f : Func} {s : ChangeSpec} {tB : TypeId} {W W' : World} {args : Array Value} {ds gs : List (DataW H)} {before : List MemPlace} (hl : laidOutB P = true) (hts : ∀ t ∈ f.params.toList, P.readableRec t = true ∧ t < P.types.size)
    (hres : f.resultTypes = #[tB]) (hB : P.underlying tB = some .bool) (hvars : s.vars = []) (hW : DataW.Whole enc P f.params.toList s.vars false W args.toList ds gs before) (hfn : s.fn H (ds ++ gs) = { results := [.lit (.bool true)], args := ds }) (hb : Below W.heap.size W W') :
    s.post enc P f false true false false W args (.bool true) W' := by
  have hlt : ∀ x ∈ before, x.block < W.heap.size := fun x hx => by simpa using hW.lt x hx
  have hW0 := hW
  obtain ⟨p, q, hA, hV, hpq, hz, hn⟩ := hW
  rw [hvars] at hV
  obtain ⟨rfl, rfl⟩ : gs = [] ∧ q = [] := by
    cases gs with
    | nil => exact ⟨rfl, hV⟩
    | cons g gs => exact hV.elim
  rw [List.append_nil] at hpq
  subst hpq
  have hsame : ∀ x ∈ before, W.sameAt W' x := fun x hx => hb.same (hlt x hx)
  have hR : ∀ (b : Nat) (sp : Nat → Bool) (hd : Bool), DataW.TrodAll enc P W' b sp hd f.resultTypes.toList ((Value.bool true).resultList f.resultTypes.size) [.lit (.bool true)] [] := fun b sp hd => by
    rw [hres]
    exact ⟨[], [], ⟨1, by simp [DataW.trod, Value.cells, hB]⟩, rfl, rfl⟩
  have hargs : ∀ sp : Nat → Bool, (∀ x ∈ before, sp x.block = true) → DataW.TrodAll enc P W' 0 sp true f.params.toList args.toList ds before := fun sp hsp => trodAll_stays hl hts hA hsame hsp
  have hold : ∀ x ∈ before, (fun b => decide (b < W.heap.size)) x.block = true := fun x hx => by simpa using hlt x hx
  refine ⟨ds, [], before, [], before, [], hW0, ?_, ?_, ?_, World.keptBut_mono (fun x hx => ⟨hx, ?_⟩) (hb.frame (· ∈ before)), fun _ => ?_⟩
  · rw [hfn]; exact hR _ _ _
  · rw [hfn]; exact hargs _ hold
  · rw [hvars, hfn]; exact rfl
  · simp at hx ⊢; exact hx
  · refine ⟨fun j t r hj hv => ?_, .lit (.bool true) :: ds, [], before, ⟨before, [], ?_, ?_, by simp, ?_, fun h => by cases h⟩, ?_⟩
    · rw [hres] at hj hv
      cases j with
      | zero =>
        simp at hj
        subst hj
        simp [Value.resultList] at hv
        subst hv
        exact okWide_bool_mk hB true
      | succ j => simp at hj
    · rw [hfn] at *
      have := trodAll_append (hargs (fun _ => true) (fun _ _ => rfl)) (hR 0 (fun _ => true) true)
      simpa using this
    · rw [hvars]; exact rfl
    · intro b off hp
      have hb1 := hlt _ hp
      rw [hb.frozen hb1]
      exact hz b off hp
    · intro x hx _
      simpa using hx
theorem law_calls {f : FuncId} {fn : Func} {s : ChangeSpec} {tB : TypeId} {W : World} {args : Array Value} {ds gs : List (DataW H)} {before : List MemPlace} {vs : List AV} {h' : List HObj} (hl : laidOutB P = true) (hts : ∀ t ∈ fn.params.toList, P.readableRec t = true ∧ t < P.types.size)
    (hres : fn.resultTypes = #[tB]) (hB : P.underlying tB = some .bool) (hvars : s.vars = []) (hW : DataW.Whole enc P fn.params.toList s.vars false W args.toList ds gs before) (hfn : s.fn H (ds ++ gs) = { results := [.lit (.bool true)], args := ds })
    (hC : CallS P f vs [] (.ret (.bool true)) h') (hr : RelAll (gh0 W) W vs args) : Calls P f args W fun e W' => ∃ v, e = .returned v ∧ s.post enc P fn false true false false W args v W' := by
  refine (hC.2 (gh0 W) W args (WR0 W) hr).mono fun en W' ⟨γ', K, k, he⟩ => ?_
  cases en with
  | returned c =>
    have hc : c = .bool true := (show Rel γ' W' (.bool true) c from he).bool_
    subst hc
    have hb := k.below
    rw [K.n0, K.w0] at hb
    exact ⟨_, rfl, law_post hl hts hres hB hvars hW hfn hb⟩
  | _ => exact he.elim
end
end Go.Am
