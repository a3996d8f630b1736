import PyProof.Rows.All
import Wide.All
import OpenK.AllK
import Wide.FinOn
import PyProof.EqAt
import PyProof.EqKinds
import PyProof.TupleCall
import Open.SpecLaws
import KE.OsGo
import HandS.ForSpec
import HandS.Walk
import PySem.Challenge.RW_paintsheets_s05_over
set_option Elab.async false
set_option linter.all false
set_option maxRecDepth 100000
set_option maxHeartbeats 4000000
namespace Pm
/-! ### numbers and bytes -/
def Byt (l : List Int) : Prop := ∀ z, z ∈ l → 0 ≤ z ∧ z ≤ 255
def u8 (z : Int) : UInt8 := UInt8.ofNat z.toNat
def un (c : UInt8) : Int := (c.toNat : Int)
theorem un_u8 {z : Int} (h : 0 ≤ z ∧ z ≤ 255) : un (u8 z) = z := by
  unfold un u8
  rw [UInt8.toNat_ofNat']
  have : z.toNat % 2 ^ 8 = z.toNat := Nat.mod_eq_of_lt (by omega)
  rw [this]
  omega
theorem u8_zero {z : Int} (h : 0 ≤ z ∧ z ≤ 255) : u8 z = 0 ↔ z = 0 := by
  constructor
  · intro e
    have q := un_u8 h
    rw [e] at q
    exact q.symm
  · intro e
    subst e
    rfl
theorem u8_toNat {z : Int} (h : 0 ≤ z ∧ z ≤ 255) : (u8 z).toNat = z.toNat := by
  have q := un_u8 h
  unfold un at q
  omega
theorem u8_inj {z y : Int} (h : 0 ≤ z ∧ z ≤ 255) (h' : 0 ≤ y ∧ y ≤ 255) : u8 z = u8 y ↔ z = y := by
  constructor
  · intro e
    rw [← un_u8 h, e, un_u8 h']
  · intro e
    rw [e]
theorem text_eq (l : List Int) : Neutral.text l = l.map u8 := rfl
theorem text_len (l : List Int) : (Neutral.text l).length = l.length := by rw [text_eq, List.length_map]
theorem un_text : ∀ {l : List Int}, Byt l → (Neutral.text l).map un = l
  | [], _ => rfl
  | z :: r, h => by
    show un (u8 z) :: (Neutral.text r).map un = z :: r
    rw [un_u8 (h z (List.mem_cons_self ..)), un_text fun y hy => h y (List.mem_cons_of_mem _ hy)]
theorem Byt.get {l : List Int} (h : Byt l) {i : Nat} {z : Int} (e : l[i]? = some z) : 0 ≤ z ∧ z ≤ 255 := h z (List.mem_of_getElem? e)
theorem Byt.getD {l : List Int} (h : Byt l) (i : Nat) : 0 ≤ l.getD i 0 ∧ l.getD i 0 ≤ 255 := by
  rw [List.getD_eq_getElem?_getD]
  cases e : l[i]? with
  | none => exact ⟨Int.le_refl 0, (by decide : (0 : Int) ≤ 255)⟩
  | some z => exact h.get e
theorem text_getD {l : List Int} (i : Nat) : (Neutral.text l).getD i 0 = u8 (l.getD i 0) := by
  rw [text_eq, List.getD_eq_getElem?_getD, List.getD_eq_getElem?_getD, List.getElem?_map]
  cases l[i]? <;> rfl
theorem arr_getD {α : Type} (l : List α) (i : Nat) (d : α) : l.toArray.getD i d = l.getD i d := by
  rw [Array.getD_eq_getD_getElem?, List.getD_eq_getElem?_getD]
  simp
theorem shown_bytes (b : CeSheet.Bytes) : Neutral.shown (.bytes b) = (b.length : Int) :: b.map un := rfl
/-! ### the questions -/
def side (n : Int) : Bool := decide (1 ≤ n) && decide (n ≤ 256)
def pts (w h : Int) (l : List Int) : Bool := side w && (side h && decide ((l.length : Int) = w * h))
theorem side_iff {n : Int} : side n = true ↔ 1 ≤ n ∧ n ≤ 256 := by
  unfold side
  rw [Bool.and_eq_true, decide_eq_true_iff, decide_eq_true_iff]
theorem pts_iff {w h : Int} {l : List Int} : pts w h l = true ↔ (1 ≤ w ∧ w ≤ 256) ∧ (1 ≤ h ∧ h ≤ 256) ∧ (l.length : Int) = w * h := by
  unfold pts
  rw [Bool.and_eq_true, Bool.and_eq_true, side_iff, side_iff, decide_eq_true_iff]
theorem size_iff {w h : Nat} : CeSheet.sizeOk w h = true ↔ (1 ≤ w ∧ w ≤ 256) ∧ (1 ≤ h ∧ h ≤ 256) := by
  unfold CeSheet.sizeOk CeSheet.SIDE
  simp only [Bool.and_eq_true, decide_eq_true_iff]
  omega
theorem mul_nat {w h : Int} (hw : 0 ≤ w) (hh : 0 ≤ h) : ((w.toNat * h.toNat : Nat) : Int) = w * h := by
  rw [Int.natCast_mul, Int.toNat_of_nonneg hw, Int.toNat_of_nonneg hh]
theorem pts_iff_spec {w h : Int} {l : List Int} : CeSheetSpec.pointsOk (Neutral.text l) w.toNat h.toNat = true ↔ pts w h l = true := by
  rw [pts_iff]
  unfold CeSheetSpec.pointsOk
  rw [Bool.and_eq_true, size_iff, text_len, beq_iff_eq]
  constructor
  · rintro ⟨⟨h1, h2⟩, h3⟩
    have hw : 0 ≤ w := by omega
    have hh : 0 ≤ h := by omega
    have := mul_nat hw hh
    refine ⟨by omega, by omega, ?_⟩
    rw [← this, h3]
  · rintro ⟨h1, h2, h3⟩
    have hw : 0 ≤ w := by omega
    have hh : 0 ≤ h := by omega
    have := mul_nat hw hh
    refine ⟨⟨by omega, by omega⟩, ?_⟩
    omega
theorem pts_spec {w h : Int} {l : List Int} : CeSheetSpec.pointsOk (Neutral.text l) w.toNat h.toNat = pts w h l := by
  cases e : pts w h l with
  | true => exact pts_iff_spec.mpr e
  | false =>
    cases e2 : CeSheetSpec.pointsOk (Neutral.text l) w.toNat h.toNat with
    | false => rfl
    | true =>
      rw [pts_iff_spec.mp e2] at e
      cases e
/-! ### over -/
def overL (up low : List Int) : List Int := List.zipWith (fun a b => if a = 0 then b else a) up low
theorem over_un : ∀ {up low : List Int}, Byt up → Byt low → (CeSheet.over (Neutral.text up) (Neutral.text low)).map un = overL up low
  | [], _, _, _ => rfl
  | _ :: _, [], _, _ => rfl
  | a :: r, b :: s, h1, h2 => by
    show un (CeSheet.overPaint (u8 a) (u8 b)) :: (CeSheet.over (Neutral.text r) (Neutral.text s)).map un = (if a = 0 then b else a) :: overL r s
    rw [over_un (fun y hy => h1 y (List.mem_cons_of_mem _ hy)) fun y hy => h2 y (List.mem_cons_of_mem _ hy)]
    have ha := h1 a (List.mem_cons_self ..)
    have hb := h2 b (List.mem_cons_self ..)
    unfold CeSheet.overPaint
    by_cases c : a = 0
    · rw [if_pos c, if_pos ((u8_zero ha).mpr c), un_u8 hb]
    · rw [if_neg c, if_neg (fun e => c ((u8_zero ha).mp e)), un_u8 ha]
def over (w h : Int) (up low : List Int) : List Int := if (pts w h up && pts w h low) = true then ((overL up low).length : Int) :: overL up low else [-1]
theorem over_is {w h : Int} {up low : List Int} (h1 : Byt up) (h2 : Byt low) : PyWqasbp.over w h up low = over w h up low := by
  show Neutral.shown (if CeSheetSpec.pointsOk (Neutral.text up) w.toNat h.toNat = true ∧ CeSheetSpec.pointsOk (Neutral.text low) w.toNat h.toNat = true then .bytes (CeSheet.over (Neutral.text up) (Neutral.text low)) else CeSheetSpec.no 1) = _
  unfold over
  rw [pts_spec, pts_spec]
  by_cases c : (pts w h up && pts w h low) = true
  · rw [if_pos c, if_pos (Bool.and_eq_true_iff.mp c), shown_bytes, over_un h1 h2]
    have e := congrArg List.length (over_un h1 h2)
    rw [List.length_map] at e
    rw [e]
  · rw [if_neg c, if_neg (fun q => c (Bool.and_eq_true_iff.mpr q))]
    rfl
/-! ### repaint -/
def repaintL (table a : List Int) : List Int := a.map fun p => if p = 0 then 0 else table.getD p.toNat 0
theorem repaint_un {table : List Int} (ht : Byt table) : ∀ {a : List Int}, Byt a → (CeSheet.repainted (Neutral.text table) (Neutral.text a)).map un = repaintL table a
  | [], _ => rfl
  | p :: r, h => by
    show un (if u8 p = 0 then 0 else (Neutral.text table).toArray.getD (u8 p).toNat 0) :: (CeSheet.repainted (Neutral.text table) (Neutral.text r)).map un = (if p = 0 then 0 else table.getD p.toNat 0) :: repaintL table r
    rw [repaint_un ht fun y hy => h y (List.mem_cons_of_mem _ hy)]
    have hp := h p (List.mem_cons_self ..)
    by_cases c : p = 0
    · rw [if_pos c, if_pos ((u8_zero hp).mpr c)]
      rfl
    · rw [if_neg c, if_neg (fun e => c ((u8_zero hp).mp e)), arr_getD, text_getD, u8_toNat hp, un_u8 (ht.getD _)]
def repaint (w h : Int) (a table : List Int) : List Int := if (pts w h a && decide (table.length = 256)) = true then ((repaintL table a).length : Int) :: repaintL table a else [-1]
theorem repaint_is {w h : Int} {a table : List Int} (h1 : Byt a) (h2 : Byt table) : PyWqasbp.repaint w h a table = repaint w h a table := by
  show Neutral.shown (if CeSheetSpec.pointsOk (Neutral.text a) w.toNat h.toNat = true ∧ (Neutral.text table).length = 256 then .bytes (CeSheet.repainted (Neutral.text table) (Neutral.text a)) else CeSheetSpec.no 1) = _
  unfold repaint
  rw [pts_spec, text_len]
  by_cases c : (pts w h a && decide (table.length = 256)) = true
  · have c' := Bool.and_eq_true_iff.mp c
    rw [if_pos c, if_pos ⟨c'.1, of_decide_eq_true c'.2⟩, shown_bytes, repaint_un h2 h1]
    have e := congrArg List.length (repaint_un h2 h1)
    rw [List.length_map] at e
    rw [e]
  · rw [if_neg c, if_neg (fun q => c (Bool.and_eq_true_iff.mpr ⟨q.1, decide_eq_true q.2⟩))]
    rfl
/-! ### count -/
theorem count_un {p : Int} (hp : 0 ≤ p) : ∀ {a : List Int}, Byt a → CeSheet.countOf (Neutral.text a) p.toNat = a.count p
  | [], _ => rfl
  | z :: r, h => by
    have ih := count_un hp (a := r) fun y hy => h y (List.mem_cons_of_mem _ hy)
    have hz := h z (List.mem_cons_self ..)
    unfold CeSheet.countOf at ih ⊢
    rw [text_eq] at ih ⊢
    rw [List.map_cons, List.countP_cons, ih, List.count_cons]
    have e : ((u8 z).toNat == p.toNat) = (z == p) := by
      rw [u8_toNat hz]
      by_cases c : z = p
      · subst c
        simp
      · have : ¬ z.toNat = p.toNat := by omega
        rw [beq_false_of_ne c, beq_false_of_ne this]
    rw [e]
def count (w h p : Int) (a : List Int) : List Int := if (pts w h a && decide (p ≤ 255)) = true then [((a.count p : Nat) : Int)] else [-1]
theorem count_is {w h p : Int} {a : List Int} (hp : 0 ≤ p) (h1 : Byt a) : PyWqasbp.count w h p a = count w h p a := by
  show Neutral.shown (if CeSheetSpec.pointsOk (Neutral.text a) w.toNat h.toNat = true ∧ p.toNat ≤ 255 then .nums [CeSheet.countOf (Neutral.text a) p.toNat] else CeSheetSpec.no 1) = _
  unfold count
  rw [pts_spec, count_un hp h1]
  by_cases c : (pts w h a && decide (p ≤ 255)) = true
  · have c' := Bool.and_eq_true_iff.mp c
    have c2 := of_decide_eq_true c'.2
    rw [if_pos c, if_pos ⟨c'.1, by omega⟩]
    rfl
  · rw [if_neg c, if_neg (fun q => c (Bool.and_eq_true_iff.mpr ⟨q.1, decide_eq_true (by omega)⟩))]
    rfl
end Pm
namespace Wk
open PySem PySem.Spec PyProof.Rows L2
/-! ### the text: the i-th statement of the top -/
def topS (i : Nat) : Stmt := PySem.Challenge.pw_paintsheets_s05_over.main.body.getD i (.Pass ⟨0, 0, 0, 0⟩)
abbrev sSide : Stmt := topS 5
theorem scSide : FnScope ["number"] ["number"] (defScope sSide) := ⟨rfl, rfl, rfl, by decide +kernel, rfl, by decide +kernel, by decide +kernel⟩
/-! ### small words -/
theorem same_upd {H : Hp} {p : Addr} {o : HO} (h : H p = none) : Same H (upd H p o) := fun b x e => by
  rw [upd_ne (ne_of_none e h)]
  exact e
theorem line_le {n m : Nat} (h : n ≤ m) (hm : m ≤ 16777216 := by decide) : n ≤ sizeLine := by
  rw [sizeLine_eq]
  omega
theorem line_lt {n m : Nat} (h : n ≤ m) (hm : m < 16777216 := by decide) : n < sizeLine := by
  rw [sizeLine_eq]
  omega
theorem int_at {ns : List Int} {i : Nat} {y : V} (h : (ns.map V.int)[i]? = some y) : ∃ z, ns[i]? = some z ∧ y = .int z := by
  rw [List.getElem?_map] at h
  cases e : ns[i]? with
  | none =>
    rw [e] at h
    cases h
  | some z =>
    rw [e] at h
    exact ⟨z, rfl, (Option.some.inj h).symm⟩
theorem at_int {ns : List Int} {i : Nat} {z : Int} (h : ns[i]? = some z) : (ns.map V.int)[i]? = some (.int z) := by
  rw [List.getElem?_map, h]
  rfl
theorem take_more {α : Type} {l : List α} {i : Nat} {x : α} (h : l[i]? = some x) : l.take (i + 1) = l.take i ++ [x] := by
  rw [List.take_add_one, h]
  rfl
theorem some_eq {l : List Int} {i : Nat} {z : Int} (h : l[i]? = some z) : l.getD i 0 = z := by
  rw [List.getD_eq_getElem?_getD, h]
  rfl
theorem eq_int {i j : Int} : decide (V.int i = V.int j) = decide (i = j) := by
  by_cases c : i = j
  · subst c
    simp
  · rw [decide_eq_false c, decide_eq_false (fun q => c (V.int.inj q))]
section
variable {P : Program} {w : World} {K : PySem.W.Frag} {mg : Str → Option Value} {base : Heap}
/-! ### is_side -/
def spSide : Sp := fun vs H Q _ => ∃ n : Int, vs = [.int n] ∧ Q (.bl (Pm.side n)) H
theorem ok_side {f : Addr} {fd : FuncData} {t : Tok} (F : Fun K "is_side" "is_side" sSide f fd) (mM : mg "MOST_SIDE" = some (.int 256 t)) : FnOk P w K mg base CX0 1 f fd ["number"] spSide := by
  refine F.ok scSide (fun vs H Q E h => ?_) (fun cdv A outer s H vs Q E hr h => ?_)
  · obtain ⟨n, rfl, _⟩ := h
    rfl
  · obtain ⟨n, rfl, q⟩ := h
    refine ⟨_, pss_one (ps_ret (pe_and (pe_cmpR op_le pe_int (pv 0) (nomark _)) (pe_one (pe_cmpR op_le (pv 0) (pe_glob (v := .int 256) (by rfl) mM ⟨_, rfl⟩) (nomark _))))), ?_⟩
    refine ⟨_, rfl, _, _, rfl, rfl, _, rfl, ite2 (fun c => ?_) (fun c => ?_)⟩
    · refine ⟨_, rfl, _, _, rfl, rfl, ?_⟩
      have e : Pm.side n = decide (n ≤ 256) := by
        unfold Pm.side
        rw [c, Bool.true_and]
      rw [e] at q
      exact q
    · have e : Pm.side n = false := by
        unfold Pm.side
        rw [Bool.eq_false_iff.mpr c, Bool.false_and]
      rw [e] at q
      exact q
end
end Wk
namespace Wk
open PySem PySem.Spec PyProof.Rows L2
abbrev sPts : Stmt := topS 9
theorem scPts : FnScope ["w", "h", "row"] ["w", "h", "row"] (defScope sPts) := ⟨rfl, rfl, rfl, by decide +kernel, rfl, by decide +kernel, by decide +kernel⟩
section
variable {P : Program} {w : World} {K : PySem.W.Frag} {mg : Str → Option Value} {base : Heap}
/-! ### are_points -/
def spPts (K : PySem.W.Frag) : Sp := fun vs H Q _ => ∃ (w h : Int) (a : Addr) (l : List Int), vs = [.int w, .int h, .ref a] ∧ SqL K H a (l.map V.int) ∧ Q (.bl (Pm.pts w h l)) H
theorem ok_pts {f fI : Addr} {fd fdI : FuncData} (F : Fun K "are_points" "are_points" sPts f fd) (GI : FnOk P w K mg base CX0 1 fI fdI ["number"] spSide) (gI : mg "is_side" = some (.ref fI)) (kI : PySem.W.keepIn K (.ref fI) = true) (bI : Binds K fdI ["number"] []) (mL : mg "len" = none) :
    FnOk P w K mg base CX0 2 f fd ["w", "h", "row"] (spPts K) := by
  refine F.ok scPts (fun vs H Q E h => ?_) (fun cdv A outer s H vs Q E hr h => ?_)
  · obtain ⟨w, h, a, l, rfl, _⟩ := h
    rfl
  · obtain ⟨w, h, a, l, rfl, hS, q⟩ := h
    refine ⟨_, pss_one (ps_ret (pe_and (pe_call GI hr (by rfl) gI kI bI .nil pass0 (pa_cons (pv 0) pa_nil)) (pe_and (pe_call GI hr (by rfl) gI kI bI .nil pass0 (pa_cons (pv 1) pa_nil))
      (pe_one (pe_cmpR op_eq (pe_callB call_len_seq (by rfl) mL PySem.boot_len (pa_cons (pv 2) pa_nil)) (pe_op op_mul (pv 0) (pv 1)) (nomark _)))))), ?_⟩
    have e0 : Pm.pts w h l = (Pm.side w && (Pm.side h && decide ((l.length : Int) = w * h))) := rfl
    refine ⟨_, rfl, w, rfl, _, rfl, ite2 (fun c1 => ?_) (fun c1 => ?_)⟩
    · rw [c1, Bool.true_and] at e0
      refine ⟨_, rfl, h, rfl, _, rfl, ite2 (fun c2 => ?_) (fun c2 => ?_)⟩
      · rw [c2, Bool.true_and] at e0
        have b1 := Pm.side_iff.mp c1
        refine ⟨_, rfl, a, _, rfl, .inl hS, _, rfl, _, rfl, w, h, rfl, rfl, .inl ⟨by omega, by omega⟩, rfl, ?_⟩
        rw [eq_int, List.length_map, ← e0]
        exact q
      · rw [Bool.eq_false_iff.mpr c2, Bool.false_and] at e0
        rw [e0] at q
        exact q
    · rw [Bool.eq_false_iff.mpr c1, Bool.false_and] at e0
      rw [e0] at q
      exact q
end
end Wk
namespace Wk
open PySem PySem.Spec PyProof.Rows L2
abbrev sCtd : Stmt := topS 8
theorem scCtd : FnScope ["row"] ["row"] (defScope sCtd) := ⟨rfl, rfl, rfl, by decide +kernel, rfl, by decide +kernel, by decide +kernel⟩
section
variable {P : Program} {w : World} {K : PySem.W.Frag} {mg : Str → Option Value} {base : Heap}
/-! ### counted -/
def spCtd : Sp := fun vs H Q _ => ∃ (a : Addr) (xs : List V), vs = [.ref a] ∧ H a = some (.lst xs) ∧ xs.length ≤ 1000000 ∧ ∀ (H' : Hp) (p : Addr), H' p = some (.lst (V.int (xs.length : Nat) :: xs)) → Q (.ref p) H'
theorem ok_ctd {f : Addr} {fd : FuncData} (F : Fun K "counted" "counted" sCtd f fd) (mL : mg "len" = none) : FnOk P w K mg base CX0 1 f fd ["row"] spCtd := by
  refine F.ok scCtd (fun vs H Q E h => ?_) (fun cdv A outer s H vs Q E hr h => ?_)
  · obtain ⟨a, xs, rfl, _⟩ := h
    rfl
  · obtain ⟨a, xs, rfl, ha, hl, q⟩ := h
    refine ⟨_, pss_one (ps_ret (pe_op op_cat (pe_lst (pa_cons (pe_callB call_len_seq (by rfl) mL PySem.boot_len (pa_cons (pv 0) pa_nil)) pa_nil)) (pv 0))), ?_⟩
    refine ⟨_, rfl, a, xs, rfl, .inl (SqL.of ha), line_le (m := 1) (by simp), fun l nl => ⟨_, rfl, l, a, _, xs, rfl, rfl, upd_same, (upd_ne (ne_of_none ha nl)).trans ha, line_le (m := 1000001) (by simp only [List.length_cons, List.length_nil]; omega), fun p np => ?_⟩⟩
    exact q _ p upd_same
end
end Wk
namespace Wk
open PySem PySem.Spec PyProof.Rows L2
theorem getD_at {l : List Int} {i : Nat} (h : i < l.length) : l[i]? = some (l.getD i 0) := by
  rw [List.getD_eq_getElem?_getD, List.getElem?_eq_getElem h]
  rfl
theorem step_take {l : List Int} {i : Nat} {y : Int} (h : l[i]? = some y) : (l.take i).map V.int ++ [V.int y] = (l.take (i + 1)).map V.int := by
  rw [take_more h, List.map_append]
  rfl
theorem step_takeB {l : List Bool} {i : Nat} {y : Bool} (h : l[i]? = some y) : (l.take i).map V.bl ++ [V.bl y] = (l.take (i + 1)).map V.bl := by
  rw [take_more h, List.map_append]
  rfl
/-- a list D made behind H grows: what was tracked in H stands -/
theorem same_grow {H H' : Hp} {D : Addr} {o : HO} (s : Same H H') (n : H D = none) : Same H (upd H' D o) := fun b x e => by
  rw [upd_ne (ne_of_none e n)]
  exact s b x e
theorem take_len {l : List Int} {i m : Nat} (h : l.length ≤ m) : ((l.take i).map V.int).length ≤ m := by
  rw [List.length_map, List.length_take]
  omega
theorem lt_len {l : List Int} {i : Nat} {z : Int} (h : l[i]? = some z) : i < l.length := (List.getElem?_eq_some_iff.mp h).1
theorem yes_of {σ : L2.St} {H : Hp} {A B : Hp → Prop} (h : A H) : tYes σ H (fun b H3 => if b = true then A H3 else B H3) := by
  show (if true = true then A H else B H)
  rw [if_pos rfl]
  exact h
end Wk
namespace Wk
open PySem PySem.Spec PyProof.Rows L2
abbrev sLaid : Stmt := topS 2
theorem scLaid : FnScope ["upper", "lower", "above", "below"] ["upper", "lower"] (defScope sLaid) := ⟨rfl, rfl, rfl, by decide +kernel, rfl, by decide +kernel, by decide +kernel⟩
abbrev sAns : Stmt := topS 10
theorem scAns : FnScope ["w", "h", "up", "low"] ["w", "h", "up", "low"] (defScope sAns) := ⟨rfl, rfl, rfl, by decide +kernel, rfl, by decide +kernel, by decide +kernel⟩
theorem over_at {up low : List Int} {i : Nat} {x y : Int} (h1 : up[i]? = some x) (h2 : low[i]? = some y) : (Pm.overL up low)[i]? = some (if x = 0 then y else x) := by
  unfold Pm.overL
  rw [List.getElem?_zipWith, h1, h2]
theorem over_len (up low : List Int) : (Pm.overL up low).length = min up.length low.length := by
  unfold Pm.overL
  rw [List.length_zipWith]
section
variable {P : Program} {w : World} {K : PySem.W.Frag} {mg : Str → Option Value} {base : Heap}
/-! ### laid_over -/
def spLaid (K : PySem.W.Frag) : Sp := fun vs H Q _ => ∃ (a b : Addr) (up low : List Int), vs = [.ref a, .ref b] ∧ SqL K H a (up.map V.int) ∧ SqL K H b (low.map V.int) ∧ up.length ≤ 100000 ∧ ∀ (H' : Hp) (p : Addr), H' p = some (.lst ((Pm.overL up low).map V.int)) → Q (.ref p) H'
theorem ok_laid {f : Addr} {fd : FuncData} {t : Tok} (F : Fun K "laid_over" "laid_over" sLaid f fd) (mC : mg "CLEAR" = some (.int 0 t)) (mZ : mg "zip" = none) : FnOk P w K mg base CX0 1 f fd ["upper", "lower"] (spLaid K) := by
  refine F.ok scLaid (fun vs H Q E h => ?_) (fun cdv A outer s H vs Q E hr h => ?_)
  · obtain ⟨a, b, up, low, rfl, _⟩ := h
    rfl
  · obtain ⟨a, b, up, low, rfl, hA, hB, hl, q⟩ := h
    refine ⟨_, pss_one (ps_ret (pe_lc (own := [("above", 2), ("below", 3)]) (g := gTup K 2 (gCons (gName 2) (gCons (gName 3) gNil))) (by rfl) scLaid.nd (pi_zip (by rfl) mZ (pa_cons (pv 0) (pa_cons (pv 1) pa_nil)))
      (blkOk_by (own := [("above", 2), ("below", 3)]) (N := ["upper", "lower", "above", "below"]) (sc := defScope sLaid) (by decide +kernel))
      (fun _ _ _ _ _ => by exact pg_tup rfl (by exact pgs_cons (by exact pg_name (i := 2) scLaid.nd rfl (Or.inl rfl)) (by exact pgs_cons (by exact pg_name (i := 3) scLaid.nd rfl (Or.inl rfl)) pgs_nil)))
      (fun _ _ _ _ _ => pts_nil)
      (fun _ _ _ _ _ => pe_ifExp (pt_cmpR op_eq (pv 2) (pe_glob (v := .int 0) (by rfl) mC ⟨_, rfl⟩) (nomark _)) (pv 3) (pv 2)))), ?_⟩
    refine ⟨_, rfl, _, rfl, a, b, _, _, rfl, hA, hB, fun D nD => lc_it (walk_zip (K := K) (a := a) (b := b) (xs := up.map V.int) (ys := low.map V.int) rfl)
      (fun i H' => Same H H' ∧ H' D = some (.lst (((Pm.overL up low).take i).map V.int))) ⟨same_upd nD, upd_same⟩ (fun i H' _ hh => ⟨hh.1.seq hA, hh.1.seq hB⟩) ?_ ?_⟩
    · rintro i x H1 H2 hi ⟨sm, hD⟩ ⟨T, x1, x2, rfl, nT, rfl, g1, g2⟩
      obtain ⟨z1, h1, rfl⟩ := int_at g1
      obtain ⟨z2, h2, rfl⟩ := int_at g2
      have nTD : D ≠ T := ne_of_none hD nT
      have hD2 : (upd H1 T (.tup [.int z1, .int z2])) D = some (.lst (((Pm.overL up low).take i).map V.int)) := (upd_ne nTD).trans hD
      have sm2 : Same H (upd H1 T (.tup [.int z1, .int z2])) := sm.trans (same_upd nT)
      have st := over_at h1 h2
      have len : (Pm.overL up low).length ≤ 100000 := by
        rw [over_len]
        omega
      have fin : ∀ y, (Pm.overL up low)[i]? = some y → ∃ acc, (upd H1 T (.tup [.int z1, .int z2])) D = some (.lst acc) ∧ acc.length < sizeLine ∧ (Same H (upd (upd H1 T (.tup [.int z1, .int z2])) D (.lst (acc ++ [V.int y]))) ∧ (upd (upd H1 T (.tup [.int z1, .int z2])) D (.lst (acc ++ [V.int y]))) D = some (.lst (((Pm.overL up low).take (i + 1)).map V.int))) := fun y e =>
        ⟨_, hD2, line_lt (take_len len), same_grow sm2 nD, by rw [upd_same, step_take e]⟩
      refine ⟨T, _, rfl, SqT.of upd_same, rfl, _, _, rfl, _, _, rfl, rfl, rfl, yes_of ⟨_, rfl, rfl, _, rfl, ite2 (fun c => ⟨_, rfl, ?_⟩) (fun c => ⟨_, rfl, ?_⟩)⟩⟩
      · have c' : z1 = 0 := V.int.inj (of_decide_eq_true c)
        rw [if_pos c'] at st
        exact fin _ st
      · have c' : ¬ z1 = 0 := fun z => c (decide_eq_true (by rw [z]))
        rw [if_neg c'] at st
        exact fin _ st
    · rintro H1 ⟨sm, hD⟩
      refine q H1 D ?_
      rw [hD, List.take_of_length_le]
      rw [over_len, List.length_map, List.length_map]
      exact Nat.le_refl _
def spAns (K : PySem.W.Frag) : Sp := fun vs H Q _ => ∃ (w h : Int) (a : Addr) (up : List Int) (b : Addr) (low : List Int), vs = [.int w, .int h, .ref a, .ref b] ∧ SqL K H a (up.map V.int) ∧ SqL K H b (low.map V.int) ∧ up.length ≤ 100000 ∧
  ∀ (H' : Hp) (q : Addr), H' q = some (.lst ((Pm.over w h up low).map V.int)) → Q (.ref q) H'
theorem ok_ans {f fP fC fL : Addr} {fd fdP fdC fdL : FuncData} {t1 : Tok} (F : Fun K "over" "over" sAns f fd) (GP : FnOk P w K mg base CX0 2 fP fdP ["w", "h", "row"] (spPts K)) (gP : mg "are_points" = some (.ref fP)) (kP : PySem.W.keepIn K (.ref fP) = true) (bP : Binds K fdP ["w", "h", "row"] [])
    (GC : FnOk P w K mg base CX0 1 fC fdC ["row"] spCtd) (gC : mg "counted" = some (.ref fC)) (kC : PySem.W.keepIn K (.ref fC) = true) (bC : Binds K fdC ["row"] [])
    (GL : FnOk P w K mg base CX0 1 fL fdL ["upper", "lower"] (spLaid K)) (gL : mg "laid_over" = some (.ref fL)) (kL : PySem.W.keepIn K (.ref fL) = true) (bL : Binds K fdL ["upper", "lower"] [])
    (mB : mg "BAD" = some (.int (-1) t1)) : FnOk P w K mg base CX0 3 f fd ["w", "h", "up", "low"] (spAns K) := by
  refine F.ok scAns (fun vs H Q E h => ?_) (fun cdv A outer s H vs Q E hr h => ?_)
  · obtain ⟨w, h, a, up, b, low, rfl, _⟩ := h
    rfl
  · obtain ⟨w, h, a, up, b, low, rfl, hA, hB, hl, q⟩ := h
    have hr1 : Room 1 _ := hr.mono (by decide)
    refine ⟨_, pss_cons (ps_if (PW.pt (pw_or (pt_not (pt_val (pe_call GP hr (by rfl) gP kP bP .nil pass0 (pa_cons (pv 0) (pa_cons (pv 1) (pa_cons (pv 2) pa_nil)))))) (pw_or1 (pt_not (pt_val (pe_call GP hr (by rfl) gP kP bP .nil pass0 (pa_cons (pv 0) (pa_cons (pv 1) (pa_cons (pv 3) pa_nil)))))))))
        (pss_one (ps_ret (pe_lst (pa_cons (pe_glob (v := .int (-1)) (by rfl) mB ⟨_, rfl⟩) pa_nil)))) pss_nil)
      (pss_one (ps_ret (pe_call GC hr1 (by rfl) gC kC bC .nil pass0 (pa_cons (pe_call GL hr1 (by rfl) gL kL bL .nil pass0 (pa_cons (pv 2) (pa_cons (pv 3) pa_nil))) pa_nil)))), ?_⟩
    have e0 : Pm.over w h up low = if (Pm.pts w h up && Pm.pts w h low) = true then ((Pm.overL up low).length : Int) :: Pm.overL up low else [-1] := rfl
    have bad : Pm.over w h up low = [-1] → ∀ (r : Addr), H r = none → Q (.ref r) (upd H r (.lst [.int (-1)])) := fun e r nr => q _ r (by rw [upd_same, e]; rfl)
    refine ⟨_, rfl, _, rfl, _, rfl, w, h, a, up, rfl, hA, _, rfl, ite2 (fun c1 => ?_) (fun c1 => ?_)⟩
    · rw [Bool.not_eq_true'] at c1
      rw [c1, Bool.false_and, if_neg Bool.false_ne_true] at e0
      exact iteT ⟨line_le (m := 1) (by simp), bad e0⟩
    · rw [Bool.not_eq_true', Bool.not_eq_false] at c1
      rw [c1, Bool.true_and] at e0
      refine ⟨_, rfl, _, rfl, _, rfl, w, h, b, low, rfl, hB, _, rfl, ite2 (fun c2 => ?_) (fun c2 => ?_)⟩
      · rw [Bool.not_eq_true'] at c2
        rw [c2, if_neg Bool.false_ne_true] at e0
        exact ⟨line_le (m := 1) (by simp), bad e0⟩
      · rw [Bool.not_eq_true', Bool.not_eq_false] at c2
        rw [c2, if_pos rfl] at e0
        refine ⟨_, rfl, _, rfl, a, b, up, low, rfl, hA, hB, hl, fun H1 p hp => ⟨p, _, rfl, hp, ?_, fun H2 r hr2 => q H2 r ?_⟩⟩
        · rw [List.length_map, over_len]
          omega
        · rw [hr2, e0, List.length_map]
          rfl
end
end Wk
namespace Wk
open PySem PySem.Spec PyProof.Rows L2
theorem all_mk {P : Program} {w : World} {K : PySem.W.Frag} {h : Heap} {mg : Str → Option Value} {fa f1 f2 f3 f4 f5 : Addr} (X : K.In h) (G : h.Ns mainGlobals mg) (hfa : mg "over" = some (.ref fa))
    {od1 an1 od2 an2 od3 an3 od4 an4 od5 an5 : Option Addr} {sl1 sl2 sl3 sl4 sl5 : Array (Option Value)} {oc1 kV1 dc1 pm1 cd1 ct1 oc2 kV2 dc2 pm2 cd2 ct2 oc3 kV3 dc3 pm3 cd3 ct3 oc4 kV4 dc4 pm4 cd4 ct4 oc5 kV5 dc5 pm5 cd5 ct5 : Value} {t0 t1 t2 : Tok}
    (a1 : PySem.W.nsIn K mainGlobals "laid_over" = some (some (.ref f1))) (l1 : K.lookup f1 = some ⟨oc1, od1, .func (PySem.W.fnOf "laid_over" "laid_over" (defArgs sLaid) (defBody sLaid) (defScope sLaid) .none kV1 dc1 pm1 an1 cd1 ct1), sl1⟩) (c1 : PySem.W.codeIn K cd1 "laid_over" = true) (k1 : PySem.W.keepIn K (.ref f1) = true)
    (a2 : PySem.W.nsIn K mainGlobals "is_side" = some (some (.ref f2))) (l2 : K.lookup f2 = some ⟨oc2, od2, .func (PySem.W.fnOf "is_side" "is_side" (defArgs sSide) (defBody sSide) (defScope sSide) .none kV2 dc2 pm2 an2 cd2 ct2), sl2⟩) (c2 : PySem.W.codeIn K cd2 "is_side" = true) (k2 : PySem.W.keepIn K (.ref f2) = true)
    (a3 : PySem.W.nsIn K mainGlobals "counted" = some (some (.ref f3))) (l3 : K.lookup f3 = some ⟨oc3, od3, .func (PySem.W.fnOf "counted" "counted" (defArgs sCtd) (defBody sCtd) (defScope sCtd) .none kV3 dc3 pm3 an3 cd3 ct3), sl3⟩) (c3 : PySem.W.codeIn K cd3 "counted" = true) (k3 : PySem.W.keepIn K (.ref f3) = true)
    (a4 : PySem.W.nsIn K mainGlobals "are_points" = some (some (.ref f4))) (l4 : K.lookup f4 = some ⟨oc4, od4, .func (PySem.W.fnOf "are_points" "are_points" (defArgs sPts) (defBody sPts) (defScope sPts) .none kV4 dc4 pm4 an4 cd4 ct4), sl4⟩) (c4 : PySem.W.codeIn K cd4 "are_points" = true) (k4 : PySem.W.keepIn K (.ref f4) = true)
    (a5 : PySem.W.nsIn K mainGlobals "over" = some (some (.ref f5))) (l5 : K.lookup f5 = some ⟨oc5, od5, .func (PySem.W.fnOf "over" "over" (defArgs sAns) (defBody sAns) (defScope sAns) .none kV5 dc5 pm5 an5 cd5 ct5), sl5⟩) (c5 : PySem.W.codeIn K cd5 "over" = true) (k5 : PySem.W.keepIn K (.ref f5) = true)
    (u0 : PySem.W.nsIn K mainGlobals "CLEAR" = some (some (.int 0 t0)))
    (u1 : PySem.W.nsIn K mainGlobals "MOST_SIDE" = some (some (.int 256 t1)))
    (u2 : PySem.W.nsIn K mainGlobals "BAD" = some (some (.int (-1) t2)))
    (y0 : PySem.W.nsIn K mainGlobals "len" = some none)
    (y1 : PySem.W.nsIn K mainGlobals "zip" = some none)
    : ∃ fd : FuncData, (∀ (s : Shared) (us : List Value), us.length = (["w", "h", "up", "low"] : List Str).length → BindsTo s fd ⟨us, []⟩ ((["w", "h", "up", "low"] : List Str).zip us)) ∧ ∀ base : Heap, K.In base → base.Ns mainGlobals mg → FnOk P w K mg base CX0 3 fa fd ["w", "h", "up", "low"] (spAns K) := by
  have e := hfa.symm.trans (PySem.W.mg_of X G a5)
  cases e
  have F_laid_over := fun_mk (st := sLaid) l1 c1 k1
  have g_laid_over := PySem.W.mg_of X G a1
  have b_laid_over := F_laid_over.binds (ps := ["upper", "lower"]) fun _ _ _ _ _ _ us hl => match us, hl with | [_, _], _ => rfl
  have F_is_side := fun_mk (st := sSide) l2 c2 k2
  have g_is_side := PySem.W.mg_of X G a2
  have b_is_side := F_is_side.binds (ps := ["number"]) fun _ _ _ _ _ _ us hl => match us, hl with | [_], _ => rfl
  have F_counted := fun_mk (st := sCtd) l3 c3 k3
  have g_counted := PySem.W.mg_of X G a3
  have b_counted := F_counted.binds (ps := ["row"]) fun _ _ _ _ _ _ us hl => match us, hl with | [_], _ => rfl
  have F_are_points := fun_mk (st := sPts) l4 c4 k4
  have g_are_points := PySem.W.mg_of X G a4
  have b_are_points := F_are_points.binds (ps := ["w", "h", "row"]) fun _ _ _ _ _ _ us hl => match us, hl with | [_, _, _], _ => rfl
  have F_over := fun_mk (st := sAns) l5 c5 k5
  have g_over := PySem.W.mg_of X G a5
  have b_over := F_over.binds (ps := ["w", "h", "up", "low"]) fun _ _ _ _ _ _ us hl => match us, hl with | [_, _, _, _], _ => rfl
  have v_CLEAR := PySem.W.mg_of X G u0
  have v_MOST_SIDE := PySem.W.mg_of X G u1
  have v_BAD := PySem.W.mg_of X G u2
  have z_len := PySem.W.mg_none_of X G y0
  have z_zip := PySem.W.mg_none_of X G y1
  exact ⟨PySem.W.fnOf "over" "over" (defArgs sAns) (defBody sAns) (defScope sAns) .none kV5 dc5 pm5 an5 cd5 ct5, fun s us hu => match us, hu with | [_, _, _, _], _ => .of_eq rfl, fun base _ _ => ok_ans F_over (ok_pts F_are_points (ok_side F_is_side v_MOST_SIDE) g_is_side F_is_side.kp b_is_side z_len) g_are_points F_are_points.kp b_are_points (ok_ctd F_counted z_len) g_counted F_counted.kp b_counted (ok_laid F_laid_over v_CLEAR z_zip) g_laid_over F_laid_over.kp b_laid_over v_BAD⟩
end Wk
namespace Wk
open PySem.W
theorem in_int {lo hi z : Int} (h : Codec.inInt lo hi z = true) : lo ≤ z ∧ z ≤ hi := by
  unfold Codec.inInt at h
  rw [Bool.and_eq_true, decide_eq_true_iff, decide_eq_true_iff] at h
  exact h
theorem in_list {hi : Int} {most : Nat} {l : List Int} (h : Codec.inList 0 most (Codec.inInt 0 hi) l = true) : l.length ≤ most ∧ ∀ z, z ∈ l → 0 ≤ z ∧ z ≤ hi := by
  unfold Codec.inList Codec.inLen Codec.inNat at h
  rw [Bool.and_eq_true, Bool.and_eq_true, decide_eq_true_iff, decide_eq_true_iff] at h
  exact ⟨h.1.2, fun z hz => in_int (List.all_eq_true.mp h.2 z hz)⟩
end Wk
open PySem PySem.W PyProof.Rows
set_option maxRecDepth 100000 in
set_option maxHeartbeats 8000000 in
theorem PySem.Challenge.cw_paintsheets_s05_over_holds : PySem.Challenge.rw_paintsheets_s05_over.Holds := by
  w_on; k_headS; (case hw => exact ⟨[.int 1, .int 1, .list [], .list []], by decide +kernel, by decide +kernel⟩)
  k_fillS
  refine L2.walk_specK (r := PySem.Challenge.rw_paintsheets_s05_over) (k := 3) (CX := L2.CX0) (ps := ["w", "h", "up", "low"]) (sp := Wk.spAns) (by decide +kernel) rfl rfl ⟨rfl, by decide, by decide⟩ (fun w h Y => PySem.W.kIn_of Y) ?F ?S (fun _ _ _ _ z => z)
  case F =>
    intro w mg fa h Y KX G hmg
    refine' Wk.all_mk KX G hmg ?a1 ?l1 ?c1 ?k1 ?a2 ?l2 ?c2 ?k2 ?a3 ?l3 ?c3 ?k3 ?a4 ?l4 ?c4 ?k4 ?a5 ?l5 ?c5 ?k5 ?u0 ?u1 ?u2 ?y0 ?y1
    (case a1 => k_is)
    (case l1 => k_is)
    (case c1 => k_is)
    (case k1 => k_is)
    (case a2 => k_is)
    (case l2 => k_is)
    (case c2 => k_is)
    (case k2 => k_is)
    (case a3 => k_is)
    (case l3 => k_is)
    (case c3 => k_is)
    (case k3 => k_is)
    (case a4 => k_is)
    (case l4 => k_is)
    (case c4 => k_is)
    (case k4 => k_is)
    (case a5 => k_is)
    (case l5 => k_is)
    (case c5 => k_is)
    (case k5 => k_is)
    (case u0 => k_is)
    (case u1 => k_is)
    (case u2 => k_is)
    (case y0 => k_is)
    (case y1 => k_is)
  case S =>
    intro K H xs a hO hwi hask hx
    cases hx with
    | cons h0 hx =>
      cases h0
      cases hx with
      | cons h1 hx =>
        cases h1
        cases hx with
        | cons h2 hx =>
          cases h2 with
          | lst s2 d2 =>
            have e2 := L2.ints_dw a.2.2.1 _ d2
            subst e2
            cases hx with
            | cons h3 hx =>
              cases h3 with
              | lst s3 d3 =>
                have e3 := L2.ints_dw a.2.2.2.1 _ d3
                subst e3
                cases hx
                have q := hwi
                have q0 := (Bool.and_eq_true_iff.mp q).1
                replace q := (Bool.and_eq_true_iff.mp q).2
                have n0 := Wk.in_int q0
                have q1 := (Bool.and_eq_true_iff.mp q).1
                replace q := (Bool.and_eq_true_iff.mp q).2
                have n1 := Wk.in_int q1
                have q2 := (Bool.and_eq_true_iff.mp q).1
                replace q := (Bool.and_eq_true_iff.mp q).2
                have m2 := (Wk.in_list q2).1
                have b2 := (Wk.in_list q2).2
                have q3 := (Bool.and_eq_true_iff.mp q).1
                replace q := (Bool.and_eq_true_iff.mp q).2
                have m3 := (Wk.in_list q3).1
                have b3 := (Wk.in_list q3).2
                have e := Pm.over_is (w := a.1) (h := a.2.1) (up := a.2.2.1) (low := a.2.2.2.1) b2 b3
                refine ⟨a.1, a.2.1, _, a.2.2.1, _, a.2.2.2.1, rfl, s2, s3, (by omega), fun H' p hp => ?_⟩
                rw [← e] at hp
                exact .lst (L2.SqL.of hp) (L2.dw_ints _)
#print axioms PySem.Challenge.cw_paintsheets_s05_over_holds
