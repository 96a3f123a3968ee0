/- Helping texts: Ct, De, Ba, Bc. -/
import Derived.Test.YtkmlhdfpcjkekaaGreatKAx
import Derived.Test.YtkmlhdfpcjkekaaGreatKAr
set_option linter.unusedSimpArgs false
set_option linter.unusedVariables false
set_option maxRecDepth 100000
set_option maxHeartbeats 16000000
namespace Go.Av
open Go.RowKit
open Go.Proofs.Tryz (prog)
theorem RT:aD prog 1=some ⟨1,8,[.nilFunc],.one,false⟩∧
 aD prog 2=some ⟨1,8,[.int .i64 0],.int .i64,false⟩∧
 aD prog 3=some ⟨1,8,[.int .i64 0],.int .i64,false⟩∧
 aD prog 4=some ⟨1,1,[.bool false],.bool,false⟩∧
 aD prog 5=some ⟨1,1,[.int .u8 0],.int .u8,false⟩∧
 aD prog 9=some ⟨1,16,[.string ⟨#[]⟩],.str,false⟩∧
 aD prog 21=some ⟨1,4,[.int .i32 0],.int .i32,false⟩∧
 aD prog 22=some ⟨1,24,[.slice none 0 0],.slice 37,false⟩∧
 aD prog 23=some ⟨1,24,[.slice none 0 0],.slice 22,false⟩∧
 aD prog 24=some ⟨2,48,[.slice none 0 0,.slice none 0 0],.struct [(22,0,"Outer"),(23,1,"Holes")],false⟩∧
 aD prog 25=some ⟨2,48,[.slice none 0 0,.slice none 0 0],.struct [(22,0,"Outer"),(23,1,"Holes")],false⟩∧
 aD prog 26=some ⟨1,8,[.nilFunc],.one,false⟩∧
 aD prog 27=some ⟨1,8,[.nilFunc],.one,false⟩∧
 aD prog 28=some ⟨1,24,[.slice none 0 0],.slice 39,false⟩∧
 aD prog 29=some ⟨1,8,[.int .i64 0],.int .i64,false⟩∧
 aD prog 31=some ⟨1,8,[.nilFunc],.one,false⟩∧
 aD prog 33=some ⟨1,8,[.nilFunc],.one,false⟩∧
 aD prog 34=some ⟨3,40,[.bool false,.string ⟨#[]⟩,.string ⟨#[]⟩],.struct [(4,0,"Neg"),(9,1,"Num"),(9,2,"Den")],false⟩∧
 aD prog 35=some ⟨3,40,[.bool false,.string ⟨#[]⟩,.string ⟨#[]⟩],.struct [(4,0,"Neg"),(9,1,"Num"),(9,2,"Den")],false⟩∧
 aD prog 36=some ⟨6,80,[.bool false,.string ⟨#[]⟩,.string ⟨#[]⟩,.bool false,.string ⟨#[]⟩,.string ⟨#[]⟩],.struct [(35,0,"X"),(35,3,"Y")],false⟩∧
 aD prog 37=some ⟨6,80,[.bool false,.string ⟨#[]⟩,.string ⟨#[]⟩,.bool false,.string ⟨#[]⟩,.string ⟨#[]⟩],.struct [(35,0,"X"),(35,3,"Y")],false⟩∧
 aD prog 38=some ⟨12,160,[.bool false,.string ⟨#[]⟩,.string ⟨#[]⟩,.bool false,.string ⟨#[]⟩,.string ⟨#[]⟩,.bool false,.string ⟨#[]⟩,.string ⟨#[]⟩,.bool false,.string ⟨#[]⟩,.string ⟨#[]⟩],.struct [(37,0,"A"),(37,6,"B")],false⟩∧
 aD prog 39=some ⟨12,160,[.bool false,.string ⟨#[]⟩,.string ⟨#[]⟩,.bool false,.string ⟨#[]⟩,.string ⟨#[]⟩,.bool false,.string ⟨#[]⟩,.string ⟨#[]⟩,.bool false,.string ⟨#[]⟩,.string ⟨#[]⟩],.struct [(37,0,"A"),(37,6,"B")],false⟩∧
 aD prog 40=some ⟨1,8,[.nilFunc],.one,false⟩∧
 aD prog 41=some ⟨1,8,[.nilFunc],.one,false⟩∧
 aD prog 42=some ⟨1,8,[.nilFunc],.one,false⟩∧
 aD prog 43=some ⟨1,8,[.nilFunc],.one,false⟩∧
 aD prog 45=some ⟨1,8,[.nilFunc],.one,false⟩∧
 aD prog 46=some ⟨1,8,[.nilFunc],.one,false⟩∧
 aD prog 47=some ⟨1,8,[.nilFunc],.one,false⟩∧
 aD prog 48=some ⟨1,8,[.nilFunc],.one,false⟩∧
 aD prog 49=some ⟨1,24,[.slice none 0 0],.slice 62,false⟩∧
 aD prog 51=some ⟨1,8,[.nilFunc],.one,false⟩∧
 aD prog 53=some ⟨1,8,[.nilFunc],.one,false⟩∧
 aD prog 54=some ⟨1,8,[.nilFunc],.one,false⟩∧
 aD prog 55=some ⟨1,8,[.nilFunc],.one,false⟩∧
 aD prog 56=some ⟨1,8,[.nilFunc],.one,false⟩∧
 aD prog 57=some ⟨1,8,[.nilFunc],.one,false⟩∧
 aD prog 59=some ⟨1,8,[.nilFunc],.one,false⟩∧
 aD prog 60=some ⟨1,8,[.nilFunc],.one,false⟩∧
 aD prog 61=some ⟨18,240,[.bool false,.string ⟨#[]⟩,.string ⟨#[]⟩,.bool false,.string ⟨#[]⟩,.string ⟨#[]⟩,.bool false,.string ⟨#[]⟩,.string ⟨#[]⟩,.bool false,.string ⟨#[]⟩,.string ⟨#[]⟩,.bool false,.string ⟨#[]⟩,.string ⟨#[]⟩,.bool false,.string ⟨#[]⟩,.string ⟨#[]⟩],.struct [(37,0,"A"),(37,6,"B"),(37,12,"C")],false⟩∧
 aD prog 62=some ⟨18,240,[.bool false,.string ⟨#[]⟩,.string ⟨#[]⟩,.bool false,.string ⟨#[]⟩,.string ⟨#[]⟩,.bool false,.string ⟨#[]⟩,.string ⟨#[]⟩,.bool false,.string ⟨#[]⟩,.string ⟨#[]⟩,.bool false,.string ⟨#[]⟩,.string ⟨#[]⟩,.bool false,.string ⟨#[]⟩,.string ⟨#[]⟩],.struct [(37,0,"A"),(37,6,"B"),(37,12,"C")],false⟩∧
 aD prog 63=some ⟨1,8,[.nilFunc],.one,false⟩∧
 aD prog 65=some ⟨1,8,[.nilFunc],.one,false⟩∧
 aD prog 66=some ⟨1,8,[.nilFunc],.one,false⟩∧
 aD prog 67=some ⟨1,8,[.nilFunc],.one,false⟩∧
 aD prog 68=some ⟨1,8,[.nilFunc],.one,false⟩∧
 aD prog 69=some ⟨1,8,[.nilFunc],.one,false⟩∧
 aD prog 70=some ⟨1,8,[.nilFunc],.one,false⟩∧
 aD prog 71=some ⟨1,8,[.nilFunc],.one,false⟩∧
 aD prog 72=some ⟨1,24,[.slice none 0 0],.slice 77,false⟩∧
 aD prog 74=some ⟨1,8,[.nilFunc],.one,false⟩∧
 aD prog 75=some ⟨1,24,[.slice none 0 0],.slice 3,false⟩∧
 aD prog 76=some ⟨2,16,[.int .i64 0,.int .i64 0],.struct [(3,0,"A"),(3,1,"B")],false⟩∧
 aD prog 77=some ⟨2,16,[.int .i64 0,.int .i64 0],.struct [(3,0,"A"),(3,1,"B")],false⟩∧
 aD prog 78=some ⟨1,8,[.nilFunc],.one,false⟩∧
 aD prog 79=some ⟨1,8,[.nilFunc],.one,false⟩∧
 aD prog 80=some ⟨1,8,[.nilFunc],.one,false⟩∧
 aD prog 81=some ⟨1,8,[.nilFunc],.one,false⟩∧
 aD prog 82=some ⟨1,8,[.nilFunc],.one,false⟩∧
 aD prog 83=some ⟨1,8,[.nilFunc],.one,false⟩∧
 aD prog 84=some ⟨1,8,[.nilFunc],.one,false⟩∧
 aD prog 85=some ⟨1,8,[.nilFunc],.one,false⟩∧
 aD prog 86=some ⟨1,8,[.nilFunc],.one,false⟩∧
 aD prog 87=some ⟨1,8,[.nilFunc],.one,false⟩∧
 aD prog 88=some ⟨1,8,[.nilFunc],.one,false⟩∧
 aD prog 89=some ⟨1,8,[.nilFunc],.one,false⟩∧
 aD prog 91=some ⟨1,8,[.nilFunc],.one,false⟩∧
 aD prog 92=some ⟨1,8,[.nilFunc],.one,false⟩∧
 aD prog 93=some ⟨1,8,[.nilFunc],.one,false⟩∧
 aD prog 94=some ⟨1,8,[.nilFunc],.one,false⟩∧
 aD prog 95=some ⟨1,8,[.nilFunc],.one,false⟩∧
 aD prog 96=some ⟨1,8,[.nilFunc],.one,false⟩∧
 aD prog 97=some ⟨1,8,[.nilFunc],.one,false⟩∧
 aD prog 99=some ⟨1,8,[.nilFunc],.one,false⟩∧
 aD prog 100=some ⟨1,8,[.nilFunc],.one,false⟩∧
 aD prog 101=some ⟨1,8,[.nilFunc],.one,false⟩∧
 aD prog 102=some ⟨1,8,[.nilFunc],.one,false⟩∧
 aD prog 103=some ⟨1,8,[.nilFunc],.one,false⟩∧
 aD prog 104=some ⟨1,8,[.nilFunc],.one,false⟩∧
 aD prog 105=some ⟨1,8,[.nilFunc],.one,false⟩∧
 aD prog 106=some ⟨1,8,[.nilFunc],.one,false⟩∧
 aD prog 108=some ⟨1,8,[.nilFunc],.one,false⟩∧
 aD prog 109=some ⟨1,8,[.nilFunc],.one,false⟩∧
 aD prog 110=some ⟨1,8,[.nilFunc],.one,false⟩∧
 aD prog 111=some ⟨1,8,[.nilFunc],.one,false⟩∧
 aD prog 112=some ⟨1,8,[.nilFunc],.one,false⟩∧
 aD prog 113=some ⟨1,8,[.nilFunc],.one,false⟩∧
 aD prog 114=some ⟨1,8,[.nilFunc],.one,false⟩∧
 aD prog 115=some ⟨1,8,[.nilFunc],.one,false⟩∧
 aD prog 116=some ⟨1,8,[.nilFunc],.one,false⟩∧
 aD prog 117=some ⟨1,8,[.nilFunc],.one,false⟩∧
 aD prog 118=some ⟨1,24,[.slice none 0 0],.slice 35,false⟩∧
 aD prog 119=some ⟨1,8,[.nilFunc],.one,false⟩∧
 aD prog 120=some ⟨1,8,[.nilFunc],.one,false⟩∧
 aD prog 121=some ⟨1,8,[.nilFunc],.one,false⟩∧
 aD prog 122=some ⟨1,8,[.nilFunc],.one,false⟩∧
 aD prog 123=some ⟨1,8,[.nilFunc],.one,false⟩∧
 aD prog 124=some ⟨1,8,[.nilFunc],.one,false⟩∧
 aD prog 125=some ⟨1,8,[.nilFunc],.one,false⟩∧
 aD prog 126=some ⟨2,24,[.bool false,.string ⟨#[]⟩],.struct [(4,0,"Neg"),(9,1,"Mag")],false⟩∧
 aD prog 127=some ⟨2,24,[.bool false,.string ⟨#[]⟩],.struct [(4,0,"Neg"),(9,1,"Mag")],false⟩∧
 aD prog 128=some ⟨1,8,[.nilFunc],.one,false⟩∧
 aD prog 129=some ⟨1,24,[.slice none 0 0],.slice 28,false⟩∧
 aD prog 130=some ⟨1,8,[.nilFunc],.one,false⟩∧
 aD prog 131=some ⟨1,8,[.nilFunc],.one,false⟩∧
 aD prog 132=some ⟨1,8,[.nilFunc],.one,false⟩∧
 aD prog 133=some ⟨1,8,[.int .u64 0],.int .u64,false⟩∧
 aD prog 134=some ⟨1,8,[.nilFunc],.one,false⟩∧
 aD prog 135=some ⟨1,8,[.nilFunc],.one,false⟩∧
 aD prog 136=some ⟨1,8,[.nilFunc],.one,false⟩∧
 aD prog 137=some ⟨1,8,[.nilFunc],.one,false⟩∧
 aD prog 138=some ⟨1,8,[.nilFunc],.one,false⟩∧
 aD prog 139=some ⟨1,8,[.nilFunc],.one,false⟩∧
 aD prog 140=some ⟨1,8,[.nilFunc],.one,false⟩∧
 aD prog 141=some ⟨1,8,[.nilFunc],.one,false⟩∧
 aD prog 142=some ⟨1,8,[.nilFunc],.one,false⟩∧
 aD prog 143=some ⟨1,8,[.nilFunc],.one,false⟩∧
 aD prog 144=some ⟨1,8,[.nilFunc],.one,false⟩∧
 aD prog 145=some ⟨1,8,[.nilFunc],.one,false⟩∧
 aD prog 146=some ⟨1,8,[.nilFunc],.one,false⟩∧
 aD prog 147=some ⟨1,8,[.nilFunc],.one,false⟩∧
 aD prog 148=some ⟨1,8,[.nilFunc],.one,false⟩∧
 aD prog 149=some ⟨1,8,[.nilFunc],.one,false⟩∧
 aD prog 150=some ⟨4,48,[.bool false,.string ⟨#[]⟩,.bool false,.string ⟨#[]⟩],.struct [(127,0,"n"),(127,2,"d")],false⟩∧
 aD prog 151=some ⟨4,48,[.bool false,.string ⟨#[]⟩,.bool false,.string ⟨#[]⟩],.struct [(127,0,"n"),(127,2,"d")],false⟩∧
 aD prog 152=some ⟨1,8,[.nilFunc],.one,false⟩∧
 aD prog 153=some ⟨1,8,[.nilFunc],.one,false⟩∧
 aD prog 154=some ⟨1,8,[.nilFunc],.one,false⟩∧
 aD prog 155=some ⟨1,8,[.nilFunc],.one,false⟩∧
 aD prog 156=some ⟨1,8,[.nilFunc],.one,false⟩∧
 aD prog 157=some ⟨1,8,[.nilFunc],.one,false⟩∧
 aD prog 158=some ⟨1,8,[.nilFunc],.one,false⟩∧
 aD prog 159=some ⟨1,8,[.nilFunc],.one,false⟩∧
 aD prog 160=some ⟨1,8,[.nilFunc],.one,false⟩∧
 aD prog 161=some ⟨1,8,[.nilFunc],.one,false⟩∧
 aD prog 162=some ⟨1,8,[.nilFunc],.one,false⟩∧
 aD prog 163=some ⟨1,8,[.nilFunc],.one,false⟩∧
 aD prog 164=some ⟨1,8,[.nilFunc],.one,false⟩∧
 aD prog 165=some ⟨1,8,[.nilFunc],.one,false⟩∧
 aD prog 166=some ⟨1,8,[.nilFunc],.one,false⟩∧
 aD prog 167=some ⟨1,8,[.nilFunc],.one,false⟩∧
 aD prog 168=some ⟨1,8,[.nilFunc],.one,false⟩∧
 aD prog 169=some ⟨1,8,[.nilFunc],.one,false⟩∧
 aD prog 170=some ⟨1,8,[.nilFunc],.one,false⟩∧
 aD prog 171=some ⟨1,8,[.nilFunc],.one,false⟩∧
 aD prog 172=some ⟨1,8,[.int .u64 0],.int .u64,false⟩∧
 aD prog 173=some ⟨1,8,[.nilFunc],.one,false⟩∧
 aD prog 174=some ⟨1,4,[.int .u32 0],.int .u32,false⟩∧
 aD prog 175=some ⟨1,24,[.slice none 0 0],.slice 174,false⟩∧
 aD prog 176=some ⟨1,24,[.slice none 0 0],.slice 174,false⟩∧
 aD prog 177=some ⟨1,8,[.nilFunc],.one,false⟩∧
 aD prog 180=some ⟨1,8,[.nilFunc],.one,false⟩∧
 aD prog 181=some ⟨1,8,[.nilFunc],.one,false⟩∧
 aD prog 182=some ⟨1,8,[.nilFunc],.one,false⟩∧
 aD prog 184=some ⟨1,8,[.nilFunc],.one,false⟩∧
 aD prog 185=some ⟨1,8,[.nilFunc],.one,false⟩∧
 aD prog 186=some ⟨1,8,[.nilFunc],.one,false⟩∧
 aD prog 187=some ⟨1,8,[.nilFunc],.one,false⟩∧
 aD prog 188=some ⟨1,8,[.nilFunc],.one,false⟩∧
 aD prog 189=some ⟨1,8,[.nilFunc],.one,false⟩∧
 aD prog 190=some ⟨1,8,[.nilFunc],.one,false⟩∧
 aD prog 191=some ⟨1,8,[.nilFunc],.one,false⟩∧
 aD prog 192=some ⟨1,8,[.nilFunc],.one,false⟩∧
 aD prog 193=some ⟨1,8,[.nilFunc],.one,false⟩∧
 aD prog 195=some ⟨1,8,[.nilFunc],.one,false⟩∧
 aD prog 196=some ⟨1,8,[.nilFunc],.one,false⟩∧
 aD prog 197=some ⟨1,8,[.nilFunc],.one,false⟩∧
 aD prog 198=some ⟨1,8,[.nilFunc],.one,false⟩∧
 aD prog 199=some ⟨1,8,[.nilFunc],.one,false⟩∧
 aD prog 200=some ⟨1,8,[.nilFunc],.one,false⟩∧
 aD prog 201=some ⟨1,8,[.nilFunc],.one,false⟩∧
 aD prog 202=some ⟨1,8,[.nilFunc],.one,false⟩∧
 aD prog 203=some ⟨1,8,[.nilFunc],.one,false⟩∧
 aD prog 204=some ⟨1,8,[.nilFunc],.one,false⟩∧
 aD prog 205=some ⟨1,8,[.nilFunc],.one,false⟩∧
 aD prog 206=some ⟨1,8,[.nilFunc],.one,false⟩∧
 aD prog 207=some ⟨1,8,[.nilFunc],.one,false⟩∧
 aD prog 208=some ⟨1,8,[.nilFunc],.one,false⟩∧
 aD prog 209=some ⟨1,8,[.nilFunc],.one,false⟩∧
 aD prog 211=some ⟨1,8,[.nilFunc],.one,false⟩∧
 aD prog 212=some ⟨1,8,[.nilFunc],.one,false⟩∧
 aD prog 213=some ⟨1,8,[.nilFunc],.one,false⟩∧
 aD prog 214=some ⟨1,8,[.nilFunc],.one,false⟩∧
 aD prog 215=some ⟨1,8,[.nilFunc],.one,false⟩∧
 aD prog 217=some ⟨1,8,[.nilFunc],.one,false⟩∧
 aD prog 218=some ⟨1,8,[.nilFunc],.one,false⟩∧
 aD prog 219=some ⟨1,8,[.nilFunc],.one,false⟩∧
 aD prog 221=some ⟨1,8,[.nilFunc],.one,false⟩∧
 aD prog 222=some ⟨1,8,[.nilFunc],.one,false⟩∧
 aD prog 223=some ⟨1,8,[.nilFunc],.one,false⟩∧
 aD prog 224=some ⟨1,8,[.nilFunc],.one,false⟩∧
 aD prog 225=some ⟨1,8,[.nilFunc],.one,false⟩∧
 aD prog 226=some ⟨1,8,[.nilFunc],.one,false⟩∧
 aD prog 227=some ⟨1,8,[.nilFunc],.one,false⟩∧
 aD prog 228=some ⟨1,8,[.nilFunc],.one,false⟩∧
 aD prog 229=some ⟨1,8,[.nilFunc],.one,false⟩∧
 aD prog 230=some ⟨1,8,[.nilFunc],.one,false⟩∧
 aD prog 231=some ⟨1,8,[.nilFunc],.one,false⟩∧
 aD prog 232=some ⟨1,8,[.nilFunc],.one,false⟩∧
 aD prog 234=some ⟨1,8,[.nilFunc],.one,false⟩∧
 aD prog 235=some ⟨1,8,[.nilFunc],.one,false⟩∧
 aD prog 236=some ⟨1,8,[.nilFunc],.one,false⟩∧
 aD prog 237=some ⟨1,8,[.nilFunc],.one,false⟩∧
 aD prog 239=some ⟨1,8,[.nilFunc],.one,false⟩∧
 aD prog 240=some ⟨8,8,[.int .u8 0,.int .u8 0,.int .u8 0,.int .u8 0,.int .u8 0,.int .u8 0,.int .u8 0,.int .u8 0],.array 8 5,false⟩∧
 aD prog 241=some ⟨1,24,[.slice none 0 0],.slice 5,false⟩∧
 aD prog 243=some ⟨1,8,[.nilFunc],.one,false⟩∧
 aD prog 246=some ⟨1,8,[.nilFunc],.one,false⟩∧
 aD prog 247=some ⟨1,8,[.nilFunc],.one,false⟩∧
 aD prog 248=some ⟨1,8,[.nilFunc],.one,false⟩∧
 aD prog 249=some ⟨1,8,[.nilFunc],.one,false⟩∧
 aD prog 250=some ⟨1,8,[.nilFunc],.one,false⟩∧
 aD prog 251=some ⟨1,8,[.nilFunc],.one,false⟩∧
 aD prog 252=some ⟨1,8,[.nilFunc],.one,false⟩∧
 aD prog 253=some ⟨1,8,[.nilFunc],.one,false⟩∧
 aD prog 255=some ⟨1,8,[.nilFunc],.one,false⟩∧
 aD prog 256=some ⟨1,8,[.nilFunc],.one,false⟩∧
 aD prog 257=some ⟨1,8,[.nilFunc],.one,false⟩∧
 aD prog 258=some ⟨1,8,[.nilFunc],.one,false⟩∧
 aD prog 260=some ⟨1,8,[.nilFunc],.one,false⟩∧
 aD prog 261=some ⟨8,128,[.string ⟨#[]⟩,.string ⟨#[]⟩,.string ⟨#[]⟩,.string ⟨#[]⟩,.string ⟨#[]⟩,.string ⟨#[]⟩,.string ⟨#[]⟩,.string ⟨#[]⟩],.array 8 9,false⟩∧
 aD prog 270=some ⟨1,8,[.nilFunc],.one,false⟩∧
 aD prog 273=some ⟨1,8,[.nilFunc],.one,false⟩∧
 aD prog 279=some ⟨1,16,[.string ⟨#[]⟩],.struct [(9,0,"s")],false⟩:=by
 and_intros<;>kernel_rfl
theorem RY:type_of%RW∧type_of% @RB∧type_of%RX∧type_of%RE∧type_of%RF∧type_of%RT:=⟨RW,@RB,RX,RE,RF,RT⟩
theorem RZ:type_of%RY∧type_of%RK:=⟨RY,RK⟩
end Go.Av
namespace Go.Av
open Go.RowKit
variable {P:Program} {b i k n:Nat} {R B:Blk} {D:X→Blk} {K:V→Hp→Prop} {T:List V} {H:Hp} {la lb:LC} {Q:kF}
def rdQ (b:Nat) (R B:Blk) (D:X→Blk) (K:V→Hp→Prop):kF:=fun x _ H=>get H b=some B∧K (.prim (.bool (isN x))) (H.set b (some (if isN x then R else D x)))
def bgQ (P:Program) (b:Nat) (lb:LC) (R B:Blk) (D:X→Blk) (K:V→Hp→Prop):kF:=fun x T H=>x= .normal∧get H b=some R∧wpL P lb T (H.set b (some B)) (rdQ b R B D K)
theorem lV:bgQ P b lb R B D K .normal T H=(get H b=some R∧wpL P lb T (H.set b (some B)) (rdQ b R B D K)):=by simp [bgQ]
theorem k6:rdQ b R B D K .normal T H=(get H b=some B∧K (.prim (.bool true)) (H.set b (some R))):=by simp [rdQ,isN]
theorem JI:rdQ b R B D K .ret T H=(get H b=some B∧K (.prim (.bool false)) (H.set b (some (D .ret)))):=by simp [rdQ,isN]
def rfEnd (b:Nat) (R:Blk) (D:X→Blk) (T:List V) (Q:kF):V→Hp→Prop:=fun _ H'=>(get H' b=some R∧Q .normal T (H'.set b none))∨∃ x,get H' b=some (D x)∧Q x T (H'.set b none)
def RD (assign body:Code):Bool:=(mf assign).isSome&&(mf body).isSome&&r8 assign&&r8 body&&rD ((mf assign).getD .skip)&&rD ((mf body).getD .skip)
def lcC (c:Code):LC:=(mf c).getD .skip
theorem kR {p:Tmp} {ps:List Tmp} {a:V} {l:List V}:pZ T (p::ps) (a::l)=pZ (T.set p a) ps l:=rfl
theorem lR {l:List V}:pZ T [] l=T:=by simp [pZ]
theorem vI (hm:P.follows .mixedOrders=true) {f:Operand} {ps:Array Tmp} {assign body:Code} {g:FuncId} {first cap:List V} (hf:ev T f= .clo g first cap) (hn:H.length=n) (hk:ps.size=k) (hfit:RD assign body=true)
 (h:∀ (R B:Blk) (D:X→Blk),(∀ s m es,R≠ .row s m es)→(∀ args H' K,args.length=k→get H' n=some R→wpL P (lcC assign) (pZ T ps.toList args) H' (bgQ P n (lcC body) R B D K)→YC P n args H' K)→
  SC P g (first++[.yld n]++cap) (H++[some R]) (rfEnd n R D T Q)):wpL P (.rangeFunc f ps assign body) T H Q:=by
 subst hn
 unfold RD at hfit
 simp only [Bool.and_eq_true] at hfit
 obtain ⟨⟨⟨⟨⟨h1,h2⟩,h3⟩,h4⟩,h5⟩,h6⟩:=hfit
 obtain ⟨la,h1⟩:=Option.isSome_iff_exists.1 h1
 obtain ⟨lb,h2⟩:=Option.isSome_iff_exists.1 h2
 unfold lcC at h
 rw [h1,h2] at h
 rw [h1] at h5
 rw [h2] at h6
 simp only [bG] at h h5 h6
 unfold wpL
 rw [hf]
 refine SC.mono ?_ (h (.loop ⟨.ready,none,T,ps,assign,body⟩) (.loop ⟨.busy,none,T,ps,assign,body⟩) (fun x=> .loop ⟨.done,zN x,T,ps,assign,body⟩) (fun _ _ _ h=>by cases h) ?_)
 ·rintro _ H' (⟨hg,hq⟩|⟨x,hg,hq⟩)
  ·simp only [hg];exact ⟨by simp,hq⟩
  ·simp only [hg]
   refine ⟨by simp,?_⟩
   cases x<;>exact hq
 ·intro args H' K hlen hg hw
  refine PL hm hg (by rw [hlen];exact hk.symm) h1 h2 h3 h4 h5 h6 (rd la ?_ hw)
  rintro x T2 H2 ⟨rfl,hg2,hb⟩
  unfold I9
  simp only [hg2]
  refine ⟨trivial,rd lb ?_ hb⟩
  rintro x T3 H3 ⟨hg3,hk⟩
  unfold H9
  simp only [hg3]
  cases x<;>exact hk
def kP (n0:Nat) (H:Hp) (v:V) (sz:Nat) (es:List (List V)):Prop:=
 n0≤H.length∧((es=[]∧v= .prim (.slice none 0 0))∨∃ b,n0≤b∧v= .sref b 0 es.length es.length sz false∧get H b=some (.row sz true es))
theorem kP.nil {n0 sz:Nat} (h:n0≤H.length):kP n0 H (.prim (.slice none 0 0)) sz []:=⟨h,.inl ⟨rfl,rfl⟩⟩
theorem kP.one {n0 sz:Nat} {v:V} {es:List (List V)} (h:kP n0 H v sz es):v.cells=[v]:=by
 rcases h.2 with ⟨_,rfl⟩|⟨b,_,rfl,_⟩<;>rfl
theorem kP.cel {n0 sz:Nat} {v:V} {es:List (List V)} (h:kP n0 H v sz es):ku v=true:=by
 rcases h.2 with ⟨_,rfl⟩|⟨b,_,rfl,_⟩<;>rfl
theorem kP.app {n0 sz:Nat} {v:V} {es:List (List V)} (h:kP n0 H v sz es) (l:Hp):kP n0 (H++l) v sz es:=by
 refine ⟨by have:=h.1;rw [aK];omega,?_⟩
 rcases h.2 with h|⟨b,h0,h1,h2⟩
 ·exact .inl h
 ·exact .inr ⟨b,h0,h1,aO h2⟩
theorem kP.set {n0 sz c:Nat} {v:V} {es:List (List V)} {x:Option Blk} (h:kP n0 H v sz es) (hc:c<n0):kP n0 (H.set c x) v sz es:=by
 refine ⟨by rw [cO];exact h.1,?_⟩
 rcases h.2 with h|⟨b,h0,h1,h2⟩
 ·exact .inl h
 ·exact .inr ⟨b,h0,h1,by rw [mF (by omega)];exact h2⟩
theorem kP.le {n0 n1 sz:Nat} {v:V} {es:List (List V)} (h:kP n0 H v sz es) (hc:n1≤n0):kP n1 H v sz es:=by
 refine ⟨by have:=h.1;omega,?_⟩
 rcases h.2 with h|⟨b,h0,h1,h2⟩
 ·exact .inl h
 ·exact .inr ⟨b,by omega,h1,h2⟩
theorem kP.append {n0:Nat} {v:V} {ei:TyI} {es ys:List (List V)} (h:kP n0 H v ei.sz es) (hy:∀ y∈ys,∀ v∈y,ku v=true) (h1:(es.length+ys.length)*ei.bytes≤2^47) (h2:es.length+ys.length≤2^60)
 (hK:∀ v' H',kP n0 H' v' ei.sz (es++ys)→(∀ b k,b<n0→get H b=some k→get H' b=some k)→K v' H'):nP P H ei v ys K:=by
 have hN:=h.1
 refine ⟨hy,?_⟩
 rcases h.2 with ⟨rfl,rfl⟩|⟨b,hb,rfl,hg⟩
 ·simp only [aI,aX] at h1 h2
  refine ⟨fun e=>hK _ _ (by subst e;exact ⟨hN,.inl ⟨rfl,rfl⟩⟩) (fun _ _ _ h=>h),fun _=>⟨h1,h2,hK _ _ ⟨by rw [aK];omega,.inr ⟨H.length,hN,by simp,by rw [bo];simp⟩⟩ (fun _ _ _ h=>aO h)⟩⟩
 ·simp only [hg]
  refine ⟨trivial,by omega,?_⟩
  rcases Nat.eq_zero_or_pos ys.length with h0|h0
  ·left
   have:ys=[]:=List.length_eq_zero_iff.1 h0
   subst this
   refine ⟨by simp,by simp,trivial,?_⟩
   have e:kG es (0+es.length) []=es:=by simp [kG]
   rw [e]
   have e2:H.set b (some (.row ei.sz true es))=H:=by
    refine List.ext_getElem? fun c=> ?_
    rw [fS]
    split
    ·rename_i hc
     subst hc
     have:=mh hg
     rw [if_pos this]
     simp only [get,af this,Option.join_some] at hg ⊢
     rw [hg]
    ·rfl
   rw [e2]
   exact hK _ _ ⟨hN,.inr ⟨b,hb,by simp,by simpa using hg⟩⟩ (fun _ _ _ h=>h)
  ·right;right
   have hl:(H.set b none).length=H.length:=by simp
   refine ⟨by simp,by simp,h1,h2,hK _ _ ⟨by rw [aK,hl];omega,.inr ⟨H.length,hN,by simp,?_⟩⟩ ?_⟩
   ·rw [←hl,bo];simp
   ·intro c k hc hg'
    refine aO ?_
    rw [mF (by omega)];exact hg'
def BQ (es:List (List V)):Prop:=∀ e∈es,∀ v∈e,∃ x,v= .prim x
theorem yk {n:Nat}:∀ (e:List V),(∀ v∈e,∃ x,v= .prim x)→view.viewL H (n+1) e=some e
 |[],_=>by simp [view.viewL]
 |v::e,h=>by
  obtain ⟨x,rfl⟩:=h v (ah ..)
  unfold view.viewL
  rw [yk e (fun v hv=>h v (ag _ hv))]
  simp [view]
theorem kB {n:Nat}:∀ (es:List (List V)),BQ es→view.viewLL H (n+1) es=some es
 |[],_=>by simp [view.viewLL]
 |e::es,h=>by
  unfold view.viewLL
  rw [yk e (h e (ah ..)),kB es (fun e he=>h e (ag _ he))]
theorem kP.view {n0 n sz:Nat} {v:V} {es:List (List V)} (h:kP n0 H v sz es) (hp:BQ es) (hne:es≠[]):view H (n+2) v=some (.lst sz es):=by
 rcases h.2 with ⟨h,_⟩|⟨b,_,rfl,h2⟩
 ·exact absurd h hne
 ·unfold Av.view
  simp only [h2]
  rw [if_pos (by omega),List.drop_zero,List.take_length,kB es hp]
  rfl
theorem kP.cases {n0 sz:Nat} {v:V} {es:List (List V)} (h:kP n0 H v sz es) (hne:es≠[]):∃ b,n0≤b∧v= .sref b 0 es.length es.length sz false∧get H b=some (.row sz true es):=by
 rcases h.2 with ⟨h,_⟩|h
 ·exact absurd h hne
 ·exact h
theorem wF {c:Nat} {a:Option Blk} (h:c<H.length):get (H++[a]) c=get H c:=by unfold get;rw [bB h]
theorem tM {c:Nat} {a b:Option Blk} (h:c<H.length):get (H++[a]++[b]) c=get H c:=by rw [wF (by rw [aK];omega),wF h]
theorem jw {a b:Option Blk}:get (H++[a]++[b]) H.length=a:=by rw [wF (by rw [aK];exact Nat.lt_succ_self _)];exact bo
theorem pG {a b x:Option Blk}:(H++[a]++[b]).set H.length x=H++[x]++[b]:=by simp
theorem bd {b c:Nat} {k:Option Blk} (h:c≠b):get (H.set b k) c=get H c:=mF h
theorem dF {b:Nat} {k:Option Blk} (h:b<H.length):get (H.set b k) b=k:=by simp [get,h]
theorem vS {H:Hp} {b:Nat} {x y z:Option Blk} (hb:b<H.length):∃ H1,(H++[x]++[y]).set b z=H1∧(∀ c,c<H.length→c≠b→get H1 c=get H c)∧get H1 b=z∧get H1 H.length=x∧get H1 (H++[x]).length=y∧H.length+2=H1.length:=by
 refine ⟨_,rfl,?_,?_,?_,?_,?_⟩
 ·intro c hc hne;rw [bd hne,tM hc]
 ·rw [dF];rw [aK,aK];omega
 ·rw [bd (by omega),jw]
 ·rw [bd (by rw [aK];omega),bo]
 ·rw [cO,aK,aK];rfl
theorem Gy {H:Hp} {b:Nat} {x z:Option Blk} (hb:b<H.length):∃ H1,(H++[x]).set b z=H1∧(∀ c,c<H.length→c≠b→get H1 c=get H c)∧get H1 b=z∧get H1 H.length=x∧H.length+1=H1.length:=by
 refine ⟨_,rfl,?_,?_,?_,?_⟩
 ·intro c hc hne;rw [bd hne,wF hc]
 ·rw [dF];rw [aK];omega
 ·rw [bd (by omega),bo]
 ·rw [cO,aK];rfl
theorem bF {b:Nat} {k:Blk} (h:get H b=some k):b<H.length:=by
 rcases am b H.length with h1|h1
 ·exact h1
 ·rw [get,List.getElem?_eq_none h1] at h;cases h
structure Ext (H H':Hp):Prop where
 len:H.length≤H'.length
 get:∀ {c k},get H c=some k→get H' c=some k
theorem Ext.refl:Ext H H:=⟨ax _,id⟩
theorem Ext.app (l:Hp):Ext H (H++l):=⟨by rw [aK];omega,aO⟩
theorem Ext.trans {H' H'':Hp} (h:Ext H H') (k:Ext H' H''):Ext H H'':=⟨bi h.len k.len,fun g=>k.get (h.get g)⟩
theorem Ext.buf {H':Hp} {n0 sz:Nat} {v:V} {es:List (List V)} (he:Ext H H') (h:kP n0 H v sz es):kP n0 H' v sz es:=by
 refine ⟨bi h.1 he.len,?_⟩
 rcases h.2 with h|⟨b,h0,h1,h2⟩
 ·exact .inl h
 ·exact .inr ⟨b,h0,h1,he.get h2⟩
def yQ (A F:Hp→Prop):V→Hp→Prop:=fun v H=>(v= .prim (.bool true)∧A H)∨(v= .prim (.bool false)∧F H)
end Go.Av
namespace Go.Av
open Go.RowKit
open Go.Proofs.Tryz (prog)
theorem nR:aD prog 3 =some ⟨1,8,[.int .i64 0],.int .i64,false⟩:=by kernel_rfl
theorem vQ:aD prog 5 =some ⟨1,1,[.int .u8 0],.int .u8,false⟩:=by kernel_rfl
theorem qQ:aD prog 9 =some ⟨1,16,[.string ⟨#[]⟩],.str,false⟩:=by kernel_rfl
theorem DX (l:List UInt8) (hs:l.length≤7):PC prog 242 [.prim (.string (bs l))] (.prim (.int .i64 (bn l:Nat))):=by
 refine PCi ?_
 conv in bL _ _=>cbv
 simp only [bM,RN,simprocAttr]
 simp only [fQ,f7,f6,jg,ie,eQ,f9,f8,jh,dr,fh,fg,gm,cG,dy,dw,d8,eI,ji,gw,fj,fm,eY,dK,dL,dc,dZ,dY,gg,ig,jx,ik,jy,fF,ib,fo,gq,gh,gp,gv,fd,de,fc,gn,dR,dS,eZ,cC,cj,dQ,ch,dP,dN,cP,cT,fY,fZ,fX,fW,fe,dT,f5,cg,bQ,dM,cQ,gr,gu,dW,cR,dV,dm,dp,dU,cE,cm,bU,dk,bT,dj,dh,cD,cF,dX,dq,ff,bS,bJ,df,evN,evA,evL,lY,unV,gZ,nb,List.set_cons_succ,List.set_cons_zero,aB,aM,List.getElem?_toArray,aN,aV,true_and,if_true,Bool.false_eq_true,Bool.true_eq_false,if_false,aI,bD,eS,TK.isAgg,fT,fO,gz,db,d5,fw,fq,d4,fp,fu,d7,fz,d6,fy,fA,List.all_cons,List.all_nil,Bool.and_true,Bool.and_self,List.set_cons_zero,iz,bj,Option.map_none,reduceCtorEq,true_implies,false_implies,and_true,aE,aG,Bool.not_true,Bool.not_false,beq_self_eq_true,not_true_eq_false,not_false_eq_true,decide_true,decide_false,decide_not,Nat.reduceAdd,qQ]
 refine rU (fun (i:Nat) J=>[.prim (.string (bs l)),J 1,.prim (.int .i64 0),.prim (.int .i64 (bn (l.take i):Nat)),J 4,.prim (.string (bs l)),.prim (.int .i64 ((bs l).size:Nat)),.prim (.int .i64 (i:Nat)),J 8,J 9,J 10,J 11,J 12,J 13,J 14,J 15,J 16,J 17,J 18])
  (fun i H=>i≤l.length∧H=[]) (fun i=>l.length-i) 0 rfl ⟨bh _,rfl⟩ ?_
 rintro i J _ ⟨hi,rfl⟩
 try conv in ov _ _ _ _=>simp only [ov,List.lookup,RO,simprocAttr]
 simp only [fQ,f7,f6,jg,ie,eQ,f9,f8,jh,dr,fh,fg,gm,cG,dy,dw,d8,eI,ji,gw,fj,fm,eY,dK,dL,dc,dZ,dY,gg,ig,jx,ik,jy,fF,ib,fo,gq,gh,gp,gv,fd,de,fc,gn,dR,dS,eZ,cC,cj,dQ,ch,dP,dN,cP,cT,fY,fZ,fX,fW,fe,dT,f5,cg,bQ,dM,cQ,gr,gu,dW,cR,dV,dm,dp,dU,cE,cm,bU,dk,bT,dj,dh,cD,cF,dX,dq,ff,bS,bJ,df,evN,evA,evL,lY,unV,gZ,nb,List.set_cons_succ,List.set_cons_zero,aB,aM,List.getElem?_toArray,aN,aV,true_and,if_true,Bool.false_eq_true,Bool.true_eq_false,if_false,aI,bD,eS,TK.isAgg,fT,fO,gz,db,d5,fw,fq,d4,fp,fu,d7,fz,d6,fy,fA,List.all_cons,List.all_nil,Bool.and_true,Bool.and_self,List.set_cons_zero,iz,bj,Option.map_none,reduceCtorEq,true_implies,false_implies,and_true,aE,aG,Bool.not_true,Bool.not_false,beq_self_eq_true,not_true_eq_false,not_false_eq_true,decide_true,decide_false,decide_not,Nat.reduceAdd,qQ,nR,vQ,fP,it,Int.toNat_natCast]
 refine ⟨fun hc=>⟨by decide,⟨by omega,by simpa using hc⟩,i+1,?_,?_,?_⟩,fun hc=> ?_⟩
 ·have hlt:i<l.length:=by simpa using hc
  have hb:=qM (l.take i)
  have hlen:(l.take i).length=i:=by simp;omega
  rw [hlen] at hb
  have hp:256^i≤256^6:=Nat.pow_le_pow_right (by decide) (by omega)
  have hd:(l.getD i 0).toNat<256:=UInt8.toNat_lt _
  have e1:IntKind.i64.wrap ((i:Int)+1)=((i+1:Nat):Int):=by rw [jd (by omega) (by omega)];rfl
  have e2:IntKind.i64.wrap ((bn (l.take i):Int)*2^min (Int.toNat 8) IntKind.i64.bits)=((bn (l.take i)*256:Nat):Int):=by
   rw [jd]<;>simp [IntKind.bits]<;>omega
  have e3:IntKind.i64.wrap ((l.getD i 0).toNat:Int)=(((l.getD i 0).toNat:Nat):Int):=nN (by omega)
  rw [e1,e2,e3,Ht,D9 l i hlt]
  have e4:(bn (l.take i)*256%2^IntKind.i64.bits|||(l.getD i 0).toNat%2^IntKind.i64.bits)=bn (l.take i)*256+(l.getD i 0).toNat:=by
   rw [bA (by simp only [IntKind.bits];omega),bA (Nat.lt_trans hd (by decide))]
   exact As _ _ 8 hd
  rw [e4,nN (by omega)]
 ·have hlt:i<l.length:=by simpa using hc
  omega
 ·have hlt:i<l.length:=by simpa using hc
  omega
 ·have hge:¬i<l.length:=by simpa using hc
  have:l.take i=l:=List.take_of_length_le (by omega)
  simp only [ru,lB,qT,pH,aB,aM,view]
  rw [this]
end Go.Av
namespace Go.Av
open Go.RowKit
open Go.Proofs.Tryz (prog)
def strip (l:List UInt8):List UInt8:=l.dropWhile (·==0)
theorem z9 (l:List UInt8):PC prog 243 [.prim (.string (bs l))] (.prim (.string (bs (strip l)))):=by
 refine PCi ?_
 conv in bL _ _=>cbv
 simp only [bM,RN,simprocAttr]
 simp only [fQ,f7,f6,jg,ie,eQ,f9,f8,jh,dr,fh,fg,gm,cG,dy,dw,d8,eI,ji,gw,fj,fm,eY,dK,dL,dc,dZ,dY,gg,ig,jx,ik,jy,fF,ib,fo,gq,gh,gp,gv,fd,de,fc,gn,dR,dS,eZ,cC,cj,dQ,ch,dP,dN,cP,cT,fY,fZ,fX,fW,fe,dT,f5,cg,bQ,dM,cQ,gr,gu,dW,cR,dV,dm,dp,dU,cE,cm,bU,dk,bT,dj,dh,cD,cF,dX,dq,ff,bS,bJ,df,evN,evA,evL,lY,unV,gZ,nb,List.set_cons_succ,List.set_cons_zero,aB,aM,List.getElem?_toArray,aN,aV,true_and,if_true,Bool.false_eq_true,Bool.true_eq_false,if_false,aI,bD,eS,TK.isAgg,fT,fO,gz,db,d5,fw,fq,d4,fp,fu,d7,fz,d6,fy,fA,List.all_cons,List.all_nil,Bool.and_true,Bool.and_self,List.set_cons_zero,iz,bj,Option.map_none,reduceCtorEq,true_implies,false_implies,and_true,aE,aG,Bool.not_true,Bool.not_false,beq_self_eq_true,not_true_eq_false,not_false_eq_true,decide_true,decide_false,decide_not,Nat.reduceAdd,cK,cJ,kf,lM,j7,fP,it,dG,eE,Int.toNat_natCast]
 refine rU (fun (s:List UInt8) J=> .prim (.string (bs s))::J 1:: .prim (.string (bs ([])))::J 3::J 4::J 5::J 6::J 7::J 8::J 9::J 10::J 11::J 12::[]) (fun s H=>strip s=strip l∧H=[]) (fun s=>s.length) l rfl ⟨rfl,rfl⟩ ?_
 rintro s J _ ⟨hs,rfl⟩
 try conv in ov _ _ _ _=>simp only [ov,List.lookup,RO,simprocAttr]
 rcases s with _|⟨b,s⟩
 ·simp only [fQ,f7,f6,jg,ie,eQ,f9,f8,jh,dr,fh,fg,gm,cG,dy,dw,d8,eI,ji,gw,fj,fm,eY,dK,dL,dc,dZ,dY,gg,ig,jx,ik,jy,fF,ib,fo,gq,gh,gp,gv,fd,de,fc,gn,dR,dS,eZ,cC,cj,dQ,ch,dP,dN,cP,cT,fY,fZ,fX,fW,fe,dT,f5,cg,bQ,dM,cQ,gr,gu,dW,cR,dV,dm,dp,dU,cE,cm,bU,dk,bT,dj,dh,cD,cF,dX,dq,ff,bS,bJ,df,evN,evA,evL,lY,unV,gZ,nb,List.set_cons_succ,List.set_cons_zero,aB,aM,List.getElem?_toArray,aN,aV,true_and,if_true,Bool.false_eq_true,Bool.true_eq_false,if_false,aI,bD,eS,TK.isAgg,fT,fO,gz,db,d5,fw,fq,d4,fp,fu,d7,fz,d6,fy,fA,List.all_cons,List.all_nil,Bool.and_true,Bool.and_self,List.set_cons_zero,iz,bj,Option.map_none,reduceCtorEq,true_implies,false_implies,and_true,aE,aG,Bool.not_true,Bool.not_false,beq_self_eq_true,not_true_eq_false,not_false_eq_true,decide_true,decide_false,decide_not,Nat.reduceAdd,qQ,vQ,cK,cJ,kf,lM,j7,fP,it,dG,eE,Int.toNat_natCast]
  simp only [ru,lB,qT,pH,aB,aM,view,←hs];rfl
 ·simp only [fQ,f7,f6,jg,ie,eQ,f9,f8,jh,dr,fh,fg,gm,cG,dy,dw,d8,eI,ji,gw,fj,fm,eY,dK,dL,dc,dZ,dY,gg,ig,jx,ik,jy,fF,ib,fo,gq,gh,gp,gv,fd,de,fc,gn,dR,dS,eZ,cC,cj,dQ,ch,dP,dN,cP,cT,fY,fZ,fX,fW,fe,dT,f5,cg,bQ,dM,cQ,gr,gu,dW,cR,dV,dm,dp,dU,cE,cm,bU,dk,bT,dj,dh,cD,cF,dX,dq,ff,bS,bJ,df,evN,evA,evL,lY,unV,gZ,nb,List.set_cons_succ,List.set_cons_zero,aB,aM,List.getElem?_toArray,aN,aV,true_and,if_true,Bool.false_eq_true,Bool.true_eq_false,if_false,aI,bD,eS,TK.isAgg,fT,fO,gz,db,d5,fw,fq,d4,fp,fu,d7,fz,d6,fy,fA,List.all_cons,List.all_nil,Bool.and_true,Bool.and_self,List.set_cons_zero,iz,bj,Option.map_none,reduceCtorEq,true_implies,false_implies,and_true,aE,aG,Bool.not_true,Bool.not_false,beq_self_eq_true,not_true_eq_false,not_false_eq_true,decide_true,decide_false,decide_not,Nat.reduceAdd,qQ,vQ,cK,cJ,kf,lM,j7,fP,it,dG,eE,Int.toNat_natCast]
  refine ⟨⟨by omega,by simp only [aC];omega⟩,fun hb=>⟨⟨by omega,by simp only [aC];omega,Int.le_refl _⟩,s,?_,?_,by simp⟩,fun hb=> ?_⟩
  ·have e:List.drop (Int.toNat 1) (List.take (b::s).length (b::s))=s:=by simp
   rw [e]
  ·rw [←hs]
   have:b=0:=by simpa [UInt8.toNat_inj,←UInt8.toNat_inj] using hb
   subst this;simp [strip]
  ·simp only [ru,lB,qT,pH,aB,aM,view,←hs]
   have:(b==0)=false:=by simpa [←UInt8.toNat_inj] using hb
   simp [strip,this]
end Go.Av
