/- What the row of a session says of the package-level variables: opened; and one world that bears it. · One world that bears what the row of a session lists. -/
import Derived.Test.YtneebcniofolmaaGreatDoorRunN
import Derived.Test.YtneebcniofolmaaGreatDoorRows
import Derived.Lib.LaidU8
import Derived.Lib.LaidTab
import Derived.LaidLaws
import Derived.LaidHandle
import Derived.LaidSub
import Derived.Stop.Joined
namespace Go.Proofs.YtneebcniofolmaaGreatDoor
open Go.ChangeShapes Go.WideShapes Go.ChangeAt Go.RowKit Go.Lib
set_option linter.unusedVariables false
/-- a name that is no pointer's is one type's alone -/
theorem typeName_plain {P : Program} {nm : String} {tp : TypeId} (hrows : ((List.range P.types.size).all fun u => P.typeName? 3 u != some nm || u == tp) = true) (hstar : nm.toList.head? ≠ some (Char.ofNat 42))
    (u : TypeId) (hu : P.typeName? 3 u = some nm) : u = tp := by
  by_cases hlt : u < P.types.size
  · have := List.all_eq_true.1 hrows u (List.mem_range.2 hlt)
    simpa [hu] using this
  · exfalso
    unfold Program.typeName? at hu
    cases hi : P.info? u with
    | none => simp [hi] at hu
    | some i =>
      have hb := Tables.info?_beyond hlt hi
      simp only [hi] at hu
      cases hd : i.desc <;> simp only [hd, TypeDesc.tableOnly] at hu hb <;> try cases hb
      all_goals try cases hu
      simp only [Option.map_eq_some_iff] at hu
      obtain ⟨n', _, hs⟩ := hu
      apply hstar
      rw [← hs]
      simp [String.toList_append]
theorem ses_types : Tryz.prog.types.size = 356 - 100 := by kernel_rfl
theorem errno_row (u : TypeId) (h : Tryz.prog.typeName? 3 u = some "paritymill/api.Errno") : u = 72 :=
  typeName_plain (nm := "paritymill/api.Errno") (by kernel_rfl) (by decide) u h
abbrev laidL : List (String × DataW Unit) := Rows.runAnswersRow.laid
theorem laid_part {W : World} (h : laidMetH Tryz.prog laidL W) {x : String × DataW Unit} (hx : x ∈ laidL) (hn : x.2.handleName?.isNone = true) : VarReads Tryz.prog W x.1 x.2 :=
  laidMet.reads (laidMetH_iff.1 h).1 (List.mem_filter.2 ⟨hx, hn⟩)
theorem in_pow : ("internal/strconv.uint64pow10", Rows.laid_internal_strconv_uint64pow10) ∈ laidL := .tail _ (.tail _ (.head _))
theorem in_type : ("errors.errorType", Rows.laid_errors_errorType) ∈ laidL := .tail _ (.tail _ (.tail _ (.tail _ (.head _))))
theorem in_range : ("strconv.ErrRange", Rows.laid_strconv_ErrRange) ∈ laidL := .tail _ (.tail _ (.tail _ (.tail _ (.tail _ (.head _)))))
theorem in_syntax : ("strconv.ErrSyntax", Rows.laid_strconv_ErrSyntax) ∈ laidL := .tail _ (.tail _ (.tail _ (.tail _ (.tail _ (.tail _ (.head _))))))
theorem in_unread : ("paritymill/run.unread", Rows.laid_paritymill_run_unread) ∈ laidL := .tail _ (.tail _ (.tail _ (.tail _ (.tail _ (.tail _ (.tail _ (.head _)))))))
theorem rt : (Tryz.prog.cutTypes.find? (·.1 == "internal/reflectlite.rtype")).map (·.2) = some 146 := by kernel_rfl
theorem et : Tryz.prog.globalNamed "errors.errorType" = some 1 := by kernel_rfl
theorem oneRow : ((List.range (356 - 100)).filter fun t => Tryz.prog.rowNamed t [101, 114, 114, 111, 114]) = [32] := by kernel_rfl
theorem handle_of {W : World} (h : laidMetH Tryz.prog laidL W) : Handle W := by
  have h2 := (laidMetH_iff.1 h).2 _ (List.mem_filter.2 ⟨in_type, by kernel_rfl⟩)
  have hf : (Rows.laid_errors_errorType (H := Unit)).funcsIn? = none := by kernel_rfl
  rw [show (("errors.errorType", Rows.laid_errors_errorType) : String × DataW Unit).2.funcsIn? = none from hf] at h2
  obtain ⟨name, u, ty, e1, e2, e3, e4, e5⟩ := h2
  have en : name = [101, 114, 114, 111, 114] := by
    have e9 : (Rows.laid_errors_errorType (H := Unit)).handleName? = some [101, 114, 114, 111, 114] := by kernel_rfl
    exact (Option.some.inj (e9.symm.trans e1)).symm
  subst en
  obtain rfl := Option.some.inj (rt.symm.trans e2)
  have hm : ty ∈ (List.range (356 - 100)).filter fun t => Tryz.prog.rowNamed t [101, 114, 114, 111, 114] := List.mem_filter.2 ⟨List.mem_range.2 (by rw [← ses_types]; exact e3), e4⟩
  rw [oneRow] at hm
  obtain rfl := List.mem_singleton.1 hm
  have hh : typeHandle Tryz.prog 32 = .pointer (some ⟨10, 32, none⟩) := by kernel_rfl
  rw [hh] at e5
  unfold Handle
  simpa using World.var?_cell et e5 0
theorem iface_var {W : World} {n nm : String} {d : DataW Unit} (h : VarReads Tryz.prog W n (.iface nm d)) {t : TypeId} {g : Nat} (hg : Tryz.prog.globalNamed n = some g) (hty : (Tryz.prog.globals[g]?).map (·.type) = some t) {ms : Array (String × TypeId)} (ht : Tryz.prog.underlying t = some (.interface ms)) :
    ∃ tp p, W.var? Tryz.prog n = some #[.iface tp p] := by
  obtain ⟨g', t', cs, fuel, p, hg', hty', hvar, hd⟩ := h
  obtain rfl := Option.some.inj (hg.symm.trans hg')
  obtain rfl := Option.some.inj (hty.symm.trans hty')
  obtain ⟨f', u, v, hcs, _, _⟩ := iface_of_trod ht hd
  have e : cs = #[.iface u v] := Array.eq_one_of_toList hcs
  exact ⟨u, v, by rw [hvar, e]⟩
set_option maxRecDepth 100000 in
theorem unread_var {W : World} (h : laidMetH Tryz.prog laidL W) : W.cell? ⟨0, 0, none⟩ = some (ev 2) := by
  have h1 := laidMetH.filter (fun x => x.1 == "paritymill/run.unread") h
  have e1 : (laidL.filter fun x => x.1 == "paritymill/run.unread") = [("paritymill/run.unread", Rows.laid_paritymill_run_unread)] := by kernel_rfl
  rw [e1] at h1
  have h2 := (laidMetH_iff.1 h1).1
  have e2 : ([("paritymill/run.unread", Rows.laid_paritymill_run_unread)] : List (String × DataW Unit)).filter (fun x => x.2.handleName?.isNone) = [("paritymill/run.unread", Rows.laid_paritymill_run_unread)] := by kernel_rfl
  rw [e2] at h2
  obtain ⟨ps, ⟨g', t', cs, fuel, p, q, hg', hty', hvar, hd, _, hps⟩, _, hrows⟩ := h2
  clear h h1 e1 e2
  have hg : Tryz.prog.globalNamed "paritymill/run.unread" = some 0 := by kernel_rfl
  have hty : (Tryz.prog.globals[0]?).map (·.type) = some 88 := by kernel_rfl
  obtain rfl := Option.some.inj (hg.symm.trans hg')
  obtain rfl := Option.some.inj (hty.symm.trans hty')
  obtain ⟨xs, n, rfl, hx, hl, hxl, hall⟩ := DataW.trod_struct Tryz.underlying88 hd
  have hc1 : Tryz.prog.cellsOf 88 = 1 := by kernel_rfl
  have hxs : xs.map (·.1) = [DataW.iface "paritymill/api.Errno" (.lit (.int .i64 2))] := by
    have := congrArg Prod.fst hx
    injection this with this
    exact this.symm
  have h0 := hall 0 _ rfl
  cases xs with
  | nil => simp at hxs
  | cons x r =>
    have hr : r = [] := by
      have := congrArg List.length hxs
      simp at this
      exact this
    subst hr
    obtain ⟨x1, x2⟩ := x
    simp only [List.map_cons, List.map_nil, List.cons.injEq, and_true] at hxs
    subst hxs
    obtain ⟨c, hcs⟩ : ∃ c, cs.toList = [c] := by
      rw [hc1] at hl
      match cs.toList, hl with
      | [c], _ => exact ⟨c, rfl⟩
    rw [hcs] at h0
    have hce : Tryz.prog.cellsOf 32 = 1 := by kernel_rfl
    have h0' : DataW.trod (fun _ => ()) Tryz.prog W 0 (fun _ => true) false n 32 [c] = some (DataW.iface "paritymill/api.Errno" (.lit (.int .i64 2)), x2) := h0
    obtain ⟨f', u, v, hcs2, hnm, hv⟩ := iface_of_trod Tryz.underlying32 h0'
    obtain rfl := errno_row u hnm
    obtain ⟨z, hz, hz2, _⟩ := DataW.trod_int Tryz.underlying72 hv
    have hz3 : z = 2 := by
      have := congrArg Prod.fst hz2
      injection this with this
      injection this with _ this
      exact this.symm
    subst hz3
    have hc0 : c = .iface 72 v := by
      injection hcs2 with hcs2 _
    have e : cs = #[.iface 72 v] := Array.eq_one_of_toList (by rw [hcs, hc0])
    subst e
    have hcell : W.cell? ⟨0, 0, none⟩ = some (.iface 72 v) := by simpa using World.var?_cell hg hvar 0
    have hin : MemPlace.cell 0 0 ∈ ps := by rw [hps]; simp [MemPlace.row]
    have hok := (hrows _ _ hin).2 _ _ hcell
    obtain ⟨z', rfl⟩ := okWide_int Tryz.underlying72 hok
    simp [Value.cells] at hz
    subst hz
    exact hcell
theorem in_last : ("math/bits.deBruijn64tab", Rows.laid_math_bits_deBruijn64tab) ∈ laidL := .tail _ (.head _)
theorem size_of_laid {W : World} (h : laidMetH Tryz.prog laidL W) : 10 ≤ W.heap.size := by
  obtain ⟨g', t', cs, fuel, p, hg', hty', hvar, hd⟩ := laid_part h in_last (by kernel_rfl)
  have hg : Tryz.prog.globalNamed "math/bits.deBruijn64tab" = some 9 := by kernel_rfl
  unfold World.var? at hvar
  rw [hg] at hvar
  simp only [Option.bind_some] at hvar
  cases hb : W.heap[9]? with
  | none => rw [hb] at hvar; cases hvar
  | some o => have := (Array.getElem?_eq_some_iff.1 hb).1; omega
theorem env_of_laid {W : World} (h : laidMetH Tryz.prog laidL W) (hs : W.ShapedOpen Tryz.prog) : Env W := by
  have hz := size_of_laid h
  refine ⟨handle_of h, Tryz.laysM146.s1_3 W hs, unread_var h, ?_, ?_, ?_, hz⟩
  · exact iface_var (laid_part h in_syntax (by kernel_rfl)) (g := 3) (t := 32) (by kernel_rfl) (by kernel_rfl) Tryz.underlying32
  · exact iface_var (laid_part h in_range (by kernel_rfl)) (g := 4) (t := 32) (by kernel_rfl) (by kernel_rfl) Tryz.underlying32
  · obtain ⟨g', t', cs, fuel, p, hg', hty', hvar, hd⟩ := laid_part h in_pow (by kernel_rfl)
    have hg : Tryz.prog.globalNamed "internal/strconv.uint64pow10" = some 7 := by kernel_rfl
    obtain rfl := Option.some.inj (hg.symm.trans hg')
    have ht : t' = 220 := by
      have h9 : (Tryz.prog.globals[7]?).map (·.type) = some 220 := by kernel_rfl
      exact Option.some.inj (hty'.symm.trans h9)
    subst ht
    have he : (Rows.laid_internal_strconv_uint64pow10 : DataW Unit) = tabData .u64 Lib.pow10Tab := by kernel_rfl
    have hd' : DataW.trod (fun _ => ()) Tryz.prog W 0 (fun _ => true) false fuel 220 cs.toList = some (tabData .u64 Lib.pow10Tab, p) := by rw [← he]; exact hd
    have hcs := cells_of_tab Tryz.underlying220 Tryz.underlying191 (by kernel_rfl) (by kernel_rfl) hd'
    unfold Lib.TabIs
    rw [hvar, ← hcs]
end Go.Proofs.YtneebcniofolmaaGreatDoor
namespace Go.Proofs.YtneebcniofolmaaGreatDoor
open Go.ChangeShapes Go.WideShapes Go.ChangeAt Go.RowKit Go.Lib
set_option linter.unusedVariables false
/-- the cells of a table, of one depth or of two -/
def litV : DataW Unit → List Value
  | .lit (.int k n) => [Value.int k n]
  | _ => []
def partV : DataW Unit → List Value
  | .agg l => l.flatMap litV
  | .lit (.int k n) => [Value.int k n]
  | _ => []
def flatD : DataW Unit → Array Value
  | .agg l => (l.flatMap partV).toArray
  | _ => #[]
def layAt (w : World) (g : Nat) (cs : Array Value) : World := { w with heap := w.heap.modify g fun
  | .cells _ t frozen => .cells cs t frozen
  | o => o }
def textOf (d : DataW Unit) : ByteArray := match d with
  | .iface _ (.ptr (.agg [.lit (.string l)])) => ⟨l.toArray⟩
  | _ => ⟨#[]⟩
noncomputable def sesLow : Nat := (World.holding Tryz.prog default ⟨#[], #[], []⟩).heap.size
noncomputable def sesWorld (os : Os) : World :=
  layAt (layAt (layAt (layAt (layAt (layAt (layAt (layAt (layAt (World.holding Tryz.prog os ⟨#[.cells #[.string (textOf Rows.laid_strconv_ErrRange)] 218, .cells #[.string (textOf Rows.laid_strconv_ErrSyntax)] 218], #[], []⟩)
    8 (flatD Rows.laid_math_bits_deBruijn32tab))
    9 (flatD Rows.laid_math_bits_deBruijn64tab))
    7 (flatD Rows.laid_internal_strconv_uint64pow10))
    6 (flatD Rows.laid_unicode_utf8_acceptRanges))
    5 (flatD Rows.laid_unicode_utf8_first))
    1 #[.iface 146 (.agg #[.pointer (some ⟨10, 32, none⟩)])])
    4 #[.iface 216 (.pointer (some ⟨sesLow, 0, none⟩))])
    3 #[.iface 216 (.pointer (some ⟨sesLow + 1, 0, none⟩))])
    0 #[.iface 72 (.int .i64 2)]
theorem ses_laid (os : Os) (args : Array Value) : laidMetH Tryz.prog laidL ((sesWorld os).forCall (fun _ _ => 0) ⟨#[], args, []⟩).memory :=
  laidMetH_of_parts (laidMet_of_run' 8 (by kernel_rfl) (by kernel_rfl)) (by kernel_rfl)
end Go.Proofs.YtneebcniofolmaaGreatDoor
